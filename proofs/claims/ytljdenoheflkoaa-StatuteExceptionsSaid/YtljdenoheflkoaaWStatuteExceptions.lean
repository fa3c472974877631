/-
  The walk of StatuteExceptions.
-/
import Derived.Test.YtljdenoheflkoaaL8l
namespace Go.Proofs.Ytljdenoheflkoaa
open Go.ChangeShapes Go.WideShapes Go.ChangeAt Go.RowKit Go.Deep Go.Lib

set_option maxRecDepth 1000000 in
set_option maxHeartbeats 2000000 in
theorem exc_c (v1 v2 v3 : Value) (n1 n2 n3 : Nat) (is1 is2 is3 : List Int) (qa qb qc qd which number r0 r1 : Int) (w : World) (h1 : NumAt w v1 n1 6 is1) (h2 : NumAt w v2 n2 3 is2) (h3 : NumAt w v3 n3 6 is3) (ha : I64 qa) (hb : I64 qb) (hc : I64 qc) (hd : I64 qd)
    (hwh : I64 which) (hnu : I64 number) (hr0 : I64 r0) (hr1 : I64 r1) :
    Calls Try.prog 7 #[.agg #[v1, v2, v3], .agg #[.int .i64 qa, .int .i64 qb, .int .i64 qc, .int .i64 qd], .int .i64 which, .int .i64 number, .agg #[.int .i64 r0, .int .i64 r1]] w fun e w' => e = .returned (.bool true) ∧ Below w.heap.size w w' := by
  obtain ⟨a1, p1, rfl⟩ := h1.sl.val
  obtain ⟨a2, p2, rfl⟩ := h2.sl.val
  obtain ⟨a3, p3, rfl⟩ := h3.sl.val
  have HA := Lib.hid (allocs_at [.cells #[.slice a1 n1 p1, .slice a2 n2 p2, .slice a3 n3 p3] 25, .cells #[.int .i64 qa, .int .i64 qb, .int .i64 qc, .int .i64 qd] 26, .cells #[.int .i64 r0, .int .i64 r1] 27] w)
  have FA : Hid (Fr [] w _) := Lib.hid (allocs_fr [.cells #[.slice a1 n1 p1, .slice a2 n2 p2, .slice a3 n3 p3] 25, .cells #[.int .i64 qa, .int .i64 qb, .int .i64 qc, .int .i64 qd] 26, .cells #[.int .i64 r0, .int .i64 r1] 27] w)
  have H1 := Lib.hid h1; have H2 := Lib.hid h2; have H3 := Lib.hid h3
  have CQ := Lib.hid fun W => ask_c qa qb qc qd W ha hb hc hd
  have QM := Lib.hid (askQ_m qa qb qc qd)
  have HQ : Hid (askQ qa qb qc qd = ⟨pickI qa 3, pickI qb 8, pickI qc 100, pickI qd 100⟩) := Lib.hid rfl
  rw [HQ.out] at QM
  generalize pickI qa 3 = x0 at *
  generalize pickI qb 8 = x1 at *
  generalize pickI qc 100 = x2 at *
  generalize pickI qd 100 = x3 at *
  clear h1 h2 h3 ha hb hc hd HQ
  go_enter Try.func7, Try.ntmps7
  go_wp2_with fail
  refine (sane8_c _).mono ?_
  rintro e w1 ⟨rfl, f1⟩
  have B0 : w1.heap[w.heap.size]? = _ := f1.keep (HA.out 0 (by simp)) (by simp)
  have B1 : w1.heap[w.heap.size + 1]? = _ := f1.keep (HA.out 1 (by simp)) (by simp)
  have B2 : w1.heap[w.heap.size + 1 + 1]? = _ := f1.keep (HA.out 2 (by simp)) (by simp)
  have F1 := Lib.hid (FA.out.trans f1)
  have HB0 := Lib.hid B0
  have HB1 := Lib.hid B1
  have HB2 := Lib.hid B2
  clear f1 HA FA
  have c0 := cell_of_blk B0 0; have c1 := cell_of_blk B0 1; have c2 := cell_of_blk B0 2
  have CM := Lib.hid (made_c _ _ _ n1 n2 n3 is1 is2 is3 w1 (H1.out.same F1.out) (H2.out.same F1.out) (H3.out.same F1.out))
  clear B0 B1 B2
  go_wp2_with fail
  refine CM.out.mono ?_
  rintro e w2 ⟨f2, vc, vr, vf, ys, c, rfl, hm, ho⟩
  clear c0 c1 c2 CM
  obtain ⟨ac, pc, rfl⟩ := (sl_of_row ho.cls).val
  obtain ⟨ar, pr, rfl⟩ := (sl_of_row ho.rps).val
  obtain ⟨af, pf, rfl⟩ := (sl_of_row ho.fas).val
  have B2 := f2.keep HB1.out (by simp)
  have hb2 := blk_lt B2
  have c0 := cell_of_blk B2 0; have c1 := cell_of_blk B2 1; have c2 := cell_of_blk B2 2; have c3 := cell_of_blk B2 3
  have F2 := Lib.hid f2; have HM := Lib.hid hm; have HO := Lib.hid ho
  clear f2 hm ho B2
  go_wp2_with fail
  refine (CQ.out _).mono ?_
  rintro e w3 ⟨rfl, f3⟩
  clear c0 c1 c2 c3
  have L0 : Hid (LawSt w1 w2.heap.size w3.heap.size (.slice ac ys.length pc) (.slice ar c.rps.length pr) (.slice af c.fas.length pf) ys c ⟨x0, x1, x2, x3⟩ (w3.alloc (.cells #[.int .i64 x0, .int .i64 x1, .int .i64 x2, .int .i64 x3] 37))) := Lib.hid ⟨((F2.out.trans (Fr.alloc _ _ _)).trans f3).trans (Fr.alloc _ _ _), heap_alloc_old _ (f3.keep (heap_alloc_new _ _) (by simp)), heap_alloc_new _ _, (HO.out.same ((Fr.alloc _ _ _).trans f3)).same (Fr.alloc _ _ _), HM.out, ok_of HM.out QM.out⟩
  obtain ⟨a, ea⟩ : ∃ a, decideA c ⟨x0, x1, x2, x3⟩ = a := ⟨_, rfl⟩
  obtain ⟨l, el⟩ : ∃ l, decideL c ⟨x0, x1, x2, x3⟩ = l := ⟨_, rfl⟩
  have CD := Lib.hid (decide_ok L0.out.at_ L0.out.ok a l ea el)
  have EA := Lib.hid ea; have EL := Lib.hid el
  have hl := decide_len L0.out.ok
  rw [el] at hl
  have hs23 : w2.heap.size < w3.heap.size := by have := f3.size; simp at this; omega
  have d0 : w3.cell? ⟨w2.heap.size, 0, none⟩ = _ := cell_of_blk (f3.keep (heap_alloc_new _ _) (by simp)) 0
  have d1 : w3.cell? ⟨w2.heap.size, 1, none⟩ = _ := cell_of_blk (f3.keep (heap_alloc_new _ _) (by simp)) 1
  have d2 : w3.cell? ⟨w2.heap.size, 2, none⟩ = _ := cell_of_blk (f3.keep (heap_alloc_new _ _) (by simp)) 2
  clear ea el f3 hb2 HO F2
  unfold rbV qnV at CD
  simp only at CD
  go_wp2_with fail
  refine CD.out.mono ?_
  rintro e w4 ⟨f4, v, rfl, hr, hn⟩
  clear d0 d1 d2 CD
  have L4 := Lib.hid (L0.out.same f4)
  obtain ⟨va, vp, rfl⟩ := (sl_of_row hr).val
  have HR := Lib.hid hr
  clear L0 f4 hr hn hs23
  obtain ⟨hl0, hl20⟩ := hl
  obtain ⟨⟨d0, d1, d2⟩, e0, e1, e2, e3⟩ := L4.out.cells
  clear HR hl0 hl20
  have hyc : ys.length = c.cls.length := by rw [L4.out.own.eq, List.length_map]
  have hy8 : ys.length ≤ 8 := by have := L4.out.made.nc; omega
  have HYC := Lib.hid hyc
  clear hyc
  by_cases hy0 : ys.length = 0
  · have hz : ((ys.length : Int) == 0) = true := by simp [hy0]
    clear hy0
    go_wp2_with fail
    go_ret
    exact ⟨rfl, (F1.out.trans L4.out.fr).below⟩
  · have hz : ((ys.length : Int) == 0) = false := beq_eq_false_iff_ne.2 (by omega)
    have CK := Lib.hid fun W => lawpick8_c which ys.length W hwh (by omega) (by omega)
    have bk := pickI_bound which ys.length (by omega)
    generalize pickI which ys.length = kk at *
    obtain ⟨k, rfl⟩ := Int.eq_ofNat_of_zero_le bk.1
    have hk : k < ys.length := by omega
    clear bk hy0
    go_wp2_with fail
    refine (CK.out _).mono ?_
    rintro e w5 ⟨rfl, rfl⟩
    have CC := Lib.hid (copy_c _ _ _ ys c w4 L4.out.own L4.out.made.few)
    clear hz CK
    go_wp2_with fail
    refine CC.out.mono ?_
    rintro e w5 ⟨f5, oc, or_, of_, zs, rfl, ho5, hrow5⟩
    clear d0 d1 d2 e0 e1 e2 e3 CC
    obtain ⟨ac5, pc5, rfl⟩ := (sl_of_row ho5.cls).val
    obtain ⟨ar5, pr5, rfl⟩ := (sl_of_row ho5.rps).val
    obtain ⟨af5, pf5, rfl⟩ := (sl_of_row ho5.fas).val
    have X5 := Lib.hid (BxS.boxed f5 ho5 hrow5)
    have L5 := Lib.hid ((L4.out.same f5).same (Fr.alloc _ _ (.cells #[.slice ac5 zs.length pc5, .slice ar5 c.rps.length pr5, .slice af5 c.fas.length pf5] 34)))
    clear f5 ho5 hrow5
    go_wp2_with fail
    have CP := Lib.hid fun W => lawpick8_c r0 100 W hr0 (by omega) (by omega)
    have bp := pickI_bound r0 100 (by omega)
    generalize pickI r0 100 = rp at *
    have CF := Lib.hid fun W => lawpick8_c r1 50 W hr1 (by omega) (by omega)
    have bf := pickI_bound r1 50 (by omega)
    generalize pickI r1 50 = rf at *
    have bx2 := QM.out.at_
    simp only at bx2
    have B5 := Lib.hid (L5.out.fr.keep HB2.out (by simp))
    generalize w5.alloc (.cells #[.slice ac5 zs.length pc5, .slice ar5 c.rps.length pr5, .slice af5 c.fas.length pf5] 34) = W5 at *
    have hw1 : IntKind.i64.wrap (x2 + 1) = x2 + 1 := IntWalk.i64_in _ (by omega)
    have hw2 : IntKind.i64.wrap (x2 + 1 + rf) = x2 + 1 + rf := IntWalk.i64_in _ (by omega)
    have FD : Fr [] W5 W5.drew := Fr.drew _ _
    have hq4 := blk_lt L4.out.qbox
    have hr4 := blk_lt (L4.out.fr.keep HB2.out (by simp))
    have hc4 := blk_lt L4.out.cbox
    have SS : ∀ W, Fr [] W5 W → (W.cell? ⟨w5.heap.size, 1, none⟩ = some (.slice ar5 c.rps.length pr5) ∧ W.cell? ⟨w.heap.size + 1 + 1, 0, none⟩ = some (.int .i64 r0) ∧ W.cell? ⟨w.heap.size + 1 + 1, 1, none⟩ = some (.int .i64 r1) ∧ W.cell? ⟨w3.heap.size, 2, none⟩ = some (.int .i64 x2)) := fun W hf => ⟨cell_of_blk (hf.keep X5.out.box (by simp)) 1, cell_of_blk (hf.keep B5.out (by simp)) 0, cell_of_blk (hf.keep B5.out (by simp)) 1, cell_of_blk (hf.keep L5.out.qbox (by simp)) 2⟩
    refine reg_fin (fun W => W.cell? ⟨w5.heap.size, 1, none⟩ = some (.slice ar5 c.rps.length pr5) ∧ W.cell? ⟨w.heap.size + 1 + 1, 0, none⟩ = some (.int .i64 r0) ∧ W.cell? ⟨w.heap.size + 1 + 1, 1, none⟩ = some (.int .i64 r1) ∧ W.cell? ⟨w3.heap.size, 2, none⟩ = some (.int .i64 x2)) 17 [0, 1, 2, 3, 4, 6, 7, 8, 9, 10, 5, 11, 12, 13, 14, 15, 16, 17] (by kernel_rfl) (by kernel_rfl) (by kernel_rfl) rfl ?_
    generalize W5.drew = WD at FD ⊢
    iterate 10 (refine fin_take (v := ?_) rfl rfl rfl rfl (SS _ FD) (fun w hS => ?_) ?_; rotate_left; (focus (obtain ⟨s0, s1, s2, s3⟩ := hS; go_simp; rfl)); simp only [List.setIfInBounds_toArray, List.set_cons_succ, List.set_cons_zero])
    refine fin_do rfl rfl rfl (fun K hK => ?_)
    go_simp
    refine (CP.out _).mono ?_
    rintro e w6 ⟨rfl, rfl⟩
    refine hK _ _ (SS _ FD) ?_
    clear hK K
    try simp only [Act.put, List.setIfInBounds_toArray, List.set_cons_succ, List.set_cons_zero]
    refine fin_do rfl rfl rfl (fun K hK => ?_)
    go_simp
    refine (CF.out _).mono ?_
    rintro e w6 ⟨rfl, rfl⟩
    refine hK _ _ (SS _ FD) ?_
    clear hK K
    try simp only [Act.put, List.setIfInBounds_toArray, List.set_cons_succ, List.set_cons_zero]
    iterate 2 (refine fin_take (v := ?_) rfl rfl rfl rfl (SS _ FD) (fun w hS => ?_) ?_; rotate_left; (focus (obtain ⟨s0, s1, s2, s3⟩ := hS; go_simp; rfl)); simp only [List.setIfInBounds_toArray, List.set_cons_succ, List.set_cons_zero])
    refine fin_do rfl rfl rfl (fun K hK => ?_)
    go_simp
    have FB : Fr [] W5 (WD.alloc (.cells #[.int .i64 k, .int .i64 rp, .int .i64 (x2 + 1 + rf)] 55)) := FD.trans (Fr.alloc _ _ _)
    refine hK _ _ (SS _ FB) ?_
    clear hK K
    try simp only [Act.put, List.setIfInBounds_toArray, List.set_cons_succ, List.set_cons_zero]
    have HSr := srcAt_new WD #[.int .i64 k, .int .i64 rp, .int .i64 (x2 + 1 + rf)] 55
    generalize WD.alloc (.cells #[.int .i64 k, .int .i64 rp, .int .i64 (x2 + 1 + rf)] 55) = WS at *
    have X6 := X5.out.same FB
    have hnr := L4.out.made.nr
    refine fin_do (o := ⟨some 74, _, _, _, _, _⟩) rfl rfl rfl (fun K hK => ?_)
    refine wp_append_src (.tmp 60) (.tmp 73) 31 55 _ 3 24 rfl Try.underlying31 infoRp rfl (by decide) (.slice ar5 c.rps.length pr5) c.rps.length _ rfl X6.own.rps (.slice (some ⟨WD.heap.size, 0, none⟩) 1 1) 1 [.int .i64 k, .int .i64 rp, .int .i64 (x2 + 1 + rf)] rfl HSr rfl (by simp [Value.oneCell']) (by omega) (by omega) ?_
    intro ga cap W6 r6 f6 b6
    have hro : ∀ g, g < w4.heap.size → g ∉ (Value.slice ar5 c.rps.length pr5).ownBlock.toList := fun g hg hm => by have := X6.rows g (.inr (.inl (by simpa using hm))); omega
    have K5 := f6.keep X6.box (fun hm => X6.nb (.inr (.inl (by simpa using hm))))
    refine hK _ _ ⟨cell_of_blk K5 1, cell_of_blk (f6.keep (FB.keep B5.out (by simp)) (hro _ hr4)) 0, cell_of_blk (f6.keep (FB.keep B5.out (by simp)) (hro _ hr4)) 1, cell_of_blk (f6.keep (FB.keep L5.out.qbox (by simp)) (hro _ hq4)) 2⟩ ?_
    clear hK K
    try simp only [Act.put, List.setIfInBounds_toArray, List.set_cons_succ, List.set_cons_zero]
    refine fin_take (v := ?_) rfl rfl rfl rfl ⟨cell_of_blk K5 1, cell_of_blk (f6.keep (FB.keep B5.out (by simp)) (hro _ hr4)) 0, cell_of_blk (f6.keep (FB.keep B5.out (by simp)) (hro _ hr4)) 1, cell_of_blk (f6.keep (FB.keep L5.out.qbox (by simp)) (hro _ hq4)) 2⟩ (fun w hS => ?_) ?_
    rotate_left
    (focus (go_simp; rfl))
    try simp only [List.setIfInBounds_toArray, List.set_cons_succ, List.set_cons_zero]
    have t1 : W6.cell? ⟨w5.heap.size, 1, none⟩ = some (.slice ar5 c.rps.length pr5) := cell_of_blk K5 1
    have t2 := free_of_blk K5 1
    refine fin_last (o := ⟨none, _, _, _, _, _⟩) rfl rfl rfl (fun K hK => ?_)
    go_simp
    try go_upon
    try go_simp
    refine hK _ _ ?_
    clear hK K
    have P7 := X6.putRp (rs := [⟨k, rp, x2 + 1 + rf⟩]) r6 (by simp) (by simp [rpC]) f6 (own_new b6)
    generalize W6.setCell ⟨w5.heap.size, 1, none⟩ (.slice ga (c.rps.length + 1) cap) = W7 at *
    have HP7 := Lib.hid P7
    have L7 := Lib.hid (L4.out.same P7.fr)
    have QQ := QM.out
    have hEX := exc_late (c := c) (k := k) (p := rp) (f := x2 + 1 + rf) L4.out.made QM.out ⟨by omega, by have := HYC.out; omega⟩ bp ⟨by show x2 < _; omega, by omega⟩
    have CD7 := Lib.hid (decide_ok (q := ⟨x0, x1, x2, x3⟩) (P7.own.at_ (L4.out.made.ok.addRp (I64.of (by omega) (by omega)) (I64.of (by omega) (by omega)) (I64.of (by omega) (by omega)))) hEX.1 a _ (hEX.2.trans EA.out) rfl)
    unfold rbV qnV at CD7
    simp only at CD7
    obtain ⟨⟨d0, d1, d2⟩, e0, e1, e2, e3⟩ := L7.out.cells
    have g0 := cell_of_blk P7.box 0; have g1 := cell_of_blk P7.box 1; have g2 := cell_of_blk P7.box 2
    clear t1 t2 K5 hro r6 f6 b6 HSr X6 FB FD SS hw1 hw2 hEX P7
    generalize decideL _ _ = l7 at *
    go_wp2_with fail
    refine CD7.out.mono ?_
    rintro e w8 ⟨f8, v8, rfl, r8, n8⟩
    clear d0 d1 d2 e0 e1 e2 e3 g0 g1 g2 CD7
    obtain ⟨a8, p8, rfl⟩ := (sl_of_row r8).val
    have L8 := Lib.hid (L7.out.same f8)
    clear f8 r8 n8 L7
    generalize l7.length = m7 at *
    obtain ⟨⟨d0, d1, d2⟩, e0, e1, e2, e3⟩ := L8.out.cells
    obtain ⟨gb, goff, gcap, hv, hcl⟩ := clRow_cells (sl_of_row L8.out.own.cls) k hk
    cases hv
    have g5 := hcl 5 (.int .i64 ys[k].x.gives) rfl
    have hck : k < c.cls.length := by have := HYC.out; omega
    have hyx : ys[k].x = c.cls[k] := by
      have : c.cls[k] = (ys.map (·.x))[k]'(by simpa using hk) := by congr 1; exact L8.out.own.eq
      rw [this, List.getElem_map]
    have hgm := (L8.out.made.cls _ (List.getElem_mem hck)).gives
    rw [hyx] at g5
    have HYX := Lib.hid hyx
    clear hcl hyx
    obtain ⟨gv, hgv⟩ : ∃ gv, c.cls[k].gives = gv := ⟨_, rfl⟩
    rw [hgv] at g5 hgm
    have HGV := Lib.hid hgv
    clear hgv
    by_cases hg0 : gv = 0
    · have hz : (gv == 0) = true := by simpa using hg0
      go_wp2_with fail
      go_ret
      exact ⟨rfl, (F1.out.trans L8.out.fr).below⟩
    · have hz : (gv == 0) = false := by simpa using hg0
      have CN := Lib.hid fun W => lawpick8_c number gv W hnu (by omega) (by omega)
      have bn := pickI_bound number gv (by omega)
      generalize pickI number gv = nn at *
      clear hg0
      go_wp2_with fail
      refine (CN.out _).mono ?_
      rintro e w9 ⟨rfl, rfl⟩
      clear hz CN
      have hok9 : okB c ⟨x0, nn, x2, x3⟩ = true := ok_of L8.out.made ⟨QM.out.thing, by show 0 ≤ nn ∧ nn < 8; omega, QM.out.at_, QM.out.known⟩
      obtain ⟨b9, eb9⟩ : ∃ b9, decideA c ⟨x0, nn, x2, x3⟩ = b9 := ⟨_, rfl⟩
      have CD9 := Lib.hid (decide_ok (q := ⟨x0, nn, x2, x3⟩) L8.out.at_ hok9 b9 _ eb9 rfl)
      have SO9 : Hid (soB c (factsOf c ⟨x0, x1, x2, x3⟩) (clausesOf c ⟨x0, x1, x2, x3⟩) nn = b9) := Lib.hid eb9
      generalize decideL _ _ = l9 at *
      unfold rbV qnV at CD9
      simp only at CD9
      clear hok9 eb9
      go_wp2_with fail
      refine CD9.out.mono ?_
      rintro e w10 ⟨f10, v10, rfl, r10, n10⟩
      clear d0 d1 d2 e0 e1 e2 e3 g5 CD9
      obtain ⟨a10, p10, rfl⟩ := (sl_of_row r10).val
      have L10 := Lib.hid (L8.out.same f10)
      clear f10 r10 n10
      generalize l9.length = m9 at *
      have CC := Lib.hid (copy_c _ _ _ ys c w10 L10.out.own L10.out.made.few)
      obtain ⟨⟨d0, d1, d2⟩, e0, e1, e2, e3⟩ := L10.out.cells
      go_wp2_with fail
      refine CC.out.mono ?_
      rintro e w11 ⟨f11, oc, or_, of_, us, rfl, ho11, hrow11⟩
      clear d0 d1 d2 e0 e1 e2 e3 CC
      have hul : us.length = ys.length := by have h1 := ho11.eq; have h2 := L10.out.own.eq; rw [h1] at h2; have := congrArg List.length h2; simpa using this
      have HUL := Lib.hid hul
      have hku : k < us.length := by omega
      have hus0 : 0 < us.length := by omega
      clear hul
      obtain ⟨ar11, pr11, rfl⟩ := (sl_of_row ho11.rps).val
      obtain ⟨af11, pf11, rfl⟩ := (sl_of_row ho11.fas).val
      obtain ⟨gc, pc11, hv, _⟩ := ho11.cls.form hus0
      subst hv
      have X11 := Lib.hid (BxS.boxed f11 ho11 hrow11)
      have L11 := Lib.hid ((L10.out.same f11).same (Fr.alloc _ _ (.cells #[.slice (some ⟨gc, 0, none⟩) us.length pc11, .slice ar11 c.rps.length pr11, .slice af11 c.fas.length pf11] 34)))
      clear f11 ho11 hrow11
      have HUX : Hid (us[k].x = c.cls[k]) := Lib.hid (by
        have : c.cls[k] = (us.map (·.x))[k]'(by simpa using hku) := by congr 1; exact X11.out.own.eq
        rw [this, List.getElem_map])
      clear CQ H1 H2 H3 HM HB0 HB1 HB2 L4 X5 L5 B5 HP7 bp bf CP CF
      cases b9 with
      | true =>
        go_wp2_with fail
        have hX := X11.out
        have hGc := hX.own.cls.cells (g := gc) rfl
        have HCL : ∀ j u, j < 6 → (clC us[k])[j]? = some u → (w11.alloc (.cells #[.slice (some ⟨gc, 0, none⟩) us.length pc11, .slice ar11 c.rps.length pr11, .slice af11 c.fas.length pf11] 34)).cell? ⟨gc, k * 6 + j, none⟩ = some u := fun j u hj hu => by
          have := hGc (k * 6 + j) u ((flat_get (enc := clC) (k := 6) (fun _ => rfl) us k hku j hj).trans hu)
          rwa [addr_add, Nat.zero_add] at this
        have hut := hX.own.term us[k] (List.getElem_mem hku)
        have cT := HCL 3 us[k].vn (by omega) rfl
        have ghc : gc < (w11.alloc (.cells #[.slice (some ⟨gc, 0, none⟩) us.length pc11, .slice ar11 c.rps.length pr11, .slice af11 c.fas.length pf11] 34)).heap.size := hX.own.lt (.inl rfl)
        have hun := hX.own.needs us[k] (List.getElem_mem hku)
        generalize w11.alloc (.cells #[.slice (some ⟨gc, 0, none⟩) us.length pc11, .slice ar11 c.rps.length pr11, .slice af11 c.fas.length pf11] 34) = W11 at *
        rw [HUX.out] at hun
        have hcm := L8.out.made.cls _ (List.getElem_mem hck)
        obtain ⟨an, pn, hvn⟩ := hun.sl.val
        rw [hvn] at cT hun hut
        have HHX := Lib.hid hX; have HVN := Lib.hid hvn; have HCT := Lib.hid cT
        have hut' : ∀ g, (Value.slice an c.cls[k].needs.length pn).ownBlock = some g → g < W11.heap.size := fun g hg => (hut g (.inl hg)).2.1
        have CI := Lib.hid fun W (hf : Fr [] W11 W) => inserted_c (.slice an c.cls[k].needs.length pn) c.cls[k].needs nn W (hun.same hf) hcm.needs.asc (by have := hcm.needs.len; omega) (fun g hg => Nat.lt_of_lt_of_le (hut' g hg) hf.size)
        clear hGc HCL hX hut hun hvn cT hut'
        have SS : ∀ W, Fr [] W11 W → (W.cell? ⟨w11.heap.size, 0, none⟩ = some (.slice (some ⟨gc, 0, none⟩) us.length pc11) ∧ W.cell? ⟨gc, k * 6 + 3, none⟩ = some (.slice an c.cls[k].needs.length pn)) := fun W hf => ⟨cell_of_blk (hf.keep HHX.out.box (by simp)) 0, (World.cell?_of_block (hf.block gc ghc (by simp))).trans HCT.out⟩
        have FD : Fr [] W11 W11.drew := Fr.drew _ _
        obtain ⟨ln, hln⟩ : ∃ ln, c.cls[k].needs.length = ln := ⟨_, rfl⟩
        rw [hln] at CI SS HVN
        clear hln HCT
        refine reg_fin (fun W => W.cell? ⟨w11.heap.size, 0, none⟩ = some (.slice (some ⟨gc, 0, none⟩) us.length pc11) ∧ W.cell? ⟨gc, k * 6 + 3, none⟩ = some (.slice an ln pn)) 13 [0, 1, 2, 3, 4, 5, 6, 7, 8, 9, 10, 11, 12, 13] (by kernel_rfl) (by kernel_rfl) (by kernel_rfl) rfl ?_
        generalize W11.drew = WD at FD ⊢
        iterate 10 (refine fin_take (v := ?_) rfl rfl rfl rfl (SS _ FD) (fun w hS => ?_) ?_; rotate_left; (focus (obtain ⟨s0, s1⟩ := hS; go_simp; rfl)); simp only [List.setIfInBounds_toArray, List.set_cons_succ, List.set_cons_zero])
        refine fin_do rfl rfl rfl (fun K hK => ?_)
        go_simp
        refine (CI.out _ FD).mono ?_
        rintro e W12 ⟨f12, vi, l', rfl, hI, hins, hnew⟩
        obtain ⟨ai, pi, rfl⟩ := hI.sl.val
        have F12 := FD.trans f12
        refine hK _ _ (SS _ F12) ?_
        clear hK K
        try simp only [Act.put, List.setIfInBounds_toArray, List.set_cons_succ, List.set_cons_zero]
        iterate 2 (refine fin_take (v := ?_) rfl rfl rfl rfl (SS _ F12) (fun w hS => ?_) ?_; rotate_left; (focus (obtain ⟨s0, s1⟩ := hS; go_simp; rfl)); simp only [List.setIfInBounds_toArray, List.set_cons_succ, List.set_cons_zero])
        have t1 := (SS _ F12).2
        have X12 := HHX.out.same F12
        have t2 : W12.frozen? ⟨gc, k * 6 + 3, none⟩ = false := by
          rcases X12.own.cls.2 with ⟨h0, _⟩ | ⟨g', cap', cur, hv, r0, hg, _⟩
          · cases h0
          · cases hv; exact free_of_blk hg _
        refine fin_last (o := ⟨none, _, _, _, _, _⟩) rfl rfl rfl (fun K hK => ?_)
        go_simp
        try go_upon
        try go_simp
        refine hK _ _ ?_
        clear hK K
        have P13 := HHX.out.insNeeds hku hck HUX.out F12 hI (fun g hg => ⟨by
          rcases (hnew g hg).1 with h | h
          · exact .inl (by rw [HVN.out]; exact h)
          · exact .inr (Nat.le_trans FD.size h), (hnew g hg).2⟩)
        have hEX := exc_needs L8.out.ok L8.out.made hck ⟨bn.1, by rw [HGV.out]; exact bn.2⟩ hins SO9.out
        have hok13 := RbOk.set (k := k) L8.out.made.ok (x := { c.cls[k] with needs := l' }) (by
          have hx := L8.out.made.ok.cls _ (List.getElem_mem hck)
          refine { hx with needs := fun m hm => ?_ }
          rcases (hins.mem m).1 hm with h | h
          · exact hx.needs m h
          · rw [h]; exact I64.of bn.1 (by omega))
        generalize W12.setCell ⟨gc, k * 6 + 3, none⟩ (.slice ai l'.length pi) = W13 at *
        have L13 := Lib.hid (L10.out.same P13.fr)
        have CD13 := Lib.hid (decide_ok (q := ⟨x0, x1, x2, x3⟩) (P13.own.at_ hok13) hEX.1 a _ (hEX.2.trans EA.out) rfl)
        unfold rbV qnV at CD13
        simp only at CD13
        obtain ⟨⟨d0, d1, d2⟩, e0, e1, e2, e3⟩ := L13.out.cells
        have g0 := cell_of_blk P13.box 0; have g1 := cell_of_blk P13.box 1; have g2 := cell_of_blk P13.box 2
        clear t1 t2 X12 F12 f12 FD SS hEX P13 hI hins hnew hok13
        generalize decideL _ _ = l13 at *
        go_wp2_with fail
        refine CD13.out.mono ?_
        rintro e w14 ⟨f14, v14, rfl, r14, n14⟩
        obtain ⟨a14, p14, rfl⟩ := (sl_of_row r14).val
        generalize l13.length = m13 at *
        have L14 := Lib.hid (L13.out.same f14)
        clear d0 d1 d2 e0 e1 e2 e3 g0 g1 g2 CD13 f14 r14 n14
        go_wp2_with fail
        go_ret
        exact ⟨rfl, (F1.out.trans L14.out.fr).below⟩
      | false =>
        go_wp2_with fail
        have hX := X11.out
        have hGc := hX.own.cls.cells (g := gc) rfl
        have HCL : ∀ j u, j < 6 → (clC us[k])[j]? = some u → (w11.alloc (.cells #[.slice (some ⟨gc, 0, none⟩) us.length pc11, .slice ar11 c.rps.length pr11, .slice af11 c.fas.length pf11] 34)).cell? ⟨gc, k * 6 + j, none⟩ = some u := fun j u hj hu => by
          have := hGc (k * 6 + j) u ((flat_get (enc := clC) (k := 6) (fun _ => rfl) us k hku j hj).trans hu)
          rwa [addr_add, Nat.zero_add] at this
        have hut := hX.own.term us[k] (List.getElem_mem hku)
        have cT := HCL 4 us[k].vb (by omega) rfl
        have ghc : gc < (w11.alloc (.cells #[.slice (some ⟨gc, 0, none⟩) us.length pc11, .slice ar11 c.rps.length pr11, .slice af11 c.fas.length pf11] 34)).heap.size := hX.own.lt (.inl rfl)
        have hun := hX.own.bars us[k] (List.getElem_mem hku)
        generalize w11.alloc (.cells #[.slice (some ⟨gc, 0, none⟩) us.length pc11, .slice ar11 c.rps.length pr11, .slice af11 c.fas.length pf11] 34) = W11 at *
        rw [HUX.out] at hun
        have hcm := L8.out.made.cls _ (List.getElem_mem hck)
        obtain ⟨an, pn, hvn⟩ := hun.sl.val
        rw [hvn] at cT hun hut
        have HHX := Lib.hid hX; have HVN := Lib.hid hvn; have HCT := Lib.hid cT
        have hut' : ∀ g, (Value.slice an c.cls[k].bars.length pn).ownBlock = some g → g < W11.heap.size := fun g hg => (hut g (.inr hg)).2.1
        have CI := Lib.hid fun W (hf : Fr [] W11 W) => inserted_c (.slice an c.cls[k].bars.length pn) c.cls[k].bars nn W (hun.same hf) hcm.bars.asc (by have := hcm.bars.len; omega) (fun g hg => Nat.lt_of_lt_of_le (hut' g hg) hf.size)
        clear hGc HCL hX hut hun hvn cT hut'
        have SS : ∀ W, Fr [] W11 W → (W.cell? ⟨w11.heap.size, 0, none⟩ = some (.slice (some ⟨gc, 0, none⟩) us.length pc11) ∧ W.cell? ⟨gc, k * 6 + 4, none⟩ = some (.slice an c.cls[k].bars.length pn)) := fun W hf => ⟨cell_of_blk (hf.keep HHX.out.box (by simp)) 0, (World.cell?_of_block (hf.block gc ghc (by simp))).trans HCT.out⟩
        have FD : Fr [] W11 W11.drew := Fr.drew _ _
        obtain ⟨ln, hln⟩ : ∃ ln, c.cls[k].bars.length = ln := ⟨_, rfl⟩
        rw [hln] at CI SS HVN
        clear hln HCT
        refine reg_fin (fun W => W.cell? ⟨w11.heap.size, 0, none⟩ = some (.slice (some ⟨gc, 0, none⟩) us.length pc11) ∧ W.cell? ⟨gc, k * 6 + 4, none⟩ = some (.slice an ln pn)) 13 [0, 1, 2, 3, 4, 5, 6, 7, 8, 9, 10, 11, 12, 13] (by kernel_rfl) (by kernel_rfl) (by kernel_rfl) rfl ?_
        generalize W11.drew = WD at FD ⊢
        iterate 10 (refine fin_take (v := ?_) rfl rfl rfl rfl (SS _ FD) (fun w hS => ?_) ?_; rotate_left; (focus (obtain ⟨s0, s1⟩ := hS; go_simp; rfl)); simp only [List.setIfInBounds_toArray, List.set_cons_succ, List.set_cons_zero])
        refine fin_do rfl rfl rfl (fun K hK => ?_)
        go_simp
        refine (CI.out _ FD).mono ?_
        rintro e W12 ⟨f12, vi, l', rfl, hI, hins, hnew⟩
        obtain ⟨ai, pi, rfl⟩ := hI.sl.val
        have F12 := FD.trans f12
        refine hK _ _ (SS _ F12) ?_
        clear hK K
        try simp only [Act.put, List.setIfInBounds_toArray, List.set_cons_succ, List.set_cons_zero]
        iterate 2 (refine fin_take (v := ?_) rfl rfl rfl rfl (SS _ F12) (fun w hS => ?_) ?_; rotate_left; (focus (obtain ⟨s0, s1⟩ := hS; go_simp; rfl)); simp only [List.setIfInBounds_toArray, List.set_cons_succ, List.set_cons_zero])
        have t1 := (SS _ F12).2
        have X12 := HHX.out.same F12
        have t2 : W12.frozen? ⟨gc, k * 6 + 4, none⟩ = false := by
          rcases X12.own.cls.2 with ⟨h0, _⟩ | ⟨g', cap', cur, hv, r0, hg, _⟩
          · cases h0
          · cases hv; exact free_of_blk hg _
        refine fin_last (o := ⟨none, _, _, _, _, _⟩) rfl rfl rfl (fun K hK => ?_)
        go_simp
        try go_upon
        try go_simp
        refine hK _ _ ?_
        clear hK K
        have P13 := HHX.out.insBars hku hck HUX.out F12 hI (fun g hg => ⟨by
          rcases (hnew g hg).1 with h | h
          · exact .inl (by rw [HVN.out]; exact h)
          · exact .inr (Nat.le_trans FD.size h), (hnew g hg).2⟩)
        have hEX := exc_bars L8.out.ok L8.out.made hck ⟨bn.1, by rw [HGV.out]; exact bn.2⟩ hins SO9.out
        have hok13 := RbOk.set (k := k) L8.out.made.ok (x := { c.cls[k] with bars := l' }) (by
          have hx := L8.out.made.ok.cls _ (List.getElem_mem hck)
          refine { hx with bars := fun m hm => ?_ }
          rcases (hins.mem m).1 hm with h | h
          · exact hx.bars m h
          · rw [h]; exact I64.of bn.1 (by omega))
        generalize W12.setCell ⟨gc, k * 6 + 4, none⟩ (.slice ai l'.length pi) = W13 at *
        have L13 := Lib.hid (L10.out.same P13.fr)
        have CD13 := Lib.hid (decide_ok (q := ⟨x0, x1, x2, x3⟩) (P13.own.at_ hok13) hEX.1 a _ (hEX.2.trans EA.out) rfl)
        unfold rbV qnV at CD13
        simp only at CD13
        obtain ⟨⟨d0, d1, d2⟩, e0, e1, e2, e3⟩ := L13.out.cells
        have g0 := cell_of_blk P13.box 0; have g1 := cell_of_blk P13.box 1; have g2 := cell_of_blk P13.box 2
        clear t1 t2 X12 F12 f12 FD SS hEX P13 hI hins hnew hok13
        generalize decideL _ _ = l13 at *
        go_wp2_with fail
        refine CD13.out.mono ?_
        rintro e w14 ⟨f14, v14, rfl, r14, n14⟩
        obtain ⟨a14, p14, rfl⟩ := (sl_of_row r14).val
        generalize l13.length = m13 at *
        have L14 := Lib.hid (L13.out.same f14)
        clear d0 d1 d2 e0 e1 e2 e3 g0 g1 g2 CD13 f14 r14 n14
        go_wp2_with fail
        go_ret
        exact ⟨rfl, (F1.out.trans L14.out.fr).below⟩

set_option maxRecDepth 100000 in
theorem walk_StatuteExceptions {H : Type} {enc : TypeId × Value → H} {base : Nat} (W : World) {v0 v1 v2 v3 v4 : Value} {d0 d1 d2 d3 d4 : DataW H} {p0 p1 p2 p3 p4 : List MemPlace} (k0 : Value.okWide Try.prog W .any base 25 v0) (h0 : DataW.Trod enc Try.prog W 0 (fun _ => true) true 25 v0 d0 p0) (k1 : Value.okWide Try.prog W .any base 26 v1) (h1 : DataW.Trod enc Try.prog W 0 (fun _ => true) true 26 v1 d1 p1)
    (k2 : Value.okWide Try.prog W .any base 3 v2) (h2 : DataW.Trod enc Try.prog W 0 (fun _ => true) true 3 v2 d2 p2) (k3 : Value.okWide Try.prog W .any base 3 v3) (h3 : DataW.Trod enc Try.prog W 0 (fun _ => true) true 3 v3 d3 p3) (k4 : Value.okWide Try.prog W .any base 27 v4) (h4 : DataW.Trod enc Try.prog W 0 (fun _ => true) true 27 v4 d4 p4) :
    Calls Try.prog 7 #[v0, v1, v2, v3, v4] W fun e W' => e = .returned (.bool true) ∧ Below W.heap.size W W' := by
  obtain ⟨_, _, _, n1, n2, n3, is1, is2, is3, rfl, a1, a2, a3⟩ := open_numbers k0 h0
  obtain ⟨a, b, c, d, rfl, ha, hb, hc, hd⟩ := open_i4 k1 h1
  obtain ⟨x, rfl, i1, i2⟩ := open_i64 Try.underlying3 k2 h2
  obtain ⟨y, rfl, j1, j2⟩ := open_i64 Try.underlying3 k3 h3
  obtain ⟨z1, z2, rfl, u1, u2⟩ := open_i2 k4 h4
  exact exc_c _ _ _ n1 n2 n3 is1 is2 is3 a b c d x y z1 z2 W a1 a2 a3 ha hb hc hd ⟨i1, i2⟩ ⟨j1, j2⟩ u1 u2

end Go.Proofs.Ytljdenoheflkoaa
