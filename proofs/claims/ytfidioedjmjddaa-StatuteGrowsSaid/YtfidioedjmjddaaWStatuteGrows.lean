/-
  The walk of StatuteGrows.
-/
import Derived.Test.YtfidioedjmjddaaL8q
import Derived.BigQuiet
namespace Go.Proofs.Ytfidioedjmjddaa
open Go.ChangeShapes Go.WideShapes Go.ChangeAt Go.RowKit Go.Deep Go.Lib

set_option maxRecDepth 1000000 in
set_option maxHeartbeats 16000000 in
theorem grows_c (v1 v2 v3 v4 v5 v6 : Value) (n1 n2 n3 n4 n5 n6 : Nat) (is1 is2 is3 is4 is5 is6 : List Int) (qa qb qc qd oth : Int) (w : World) (h1 : NumAt w v1 n1 6 is1) (h2 : NumAt w v2 n2 3 is2) (h3 : NumAt w v3 n3 6 is3) (h4 : NumAt w v4 n4 6 is4) (h5 : NumAt w v5 n5 3 is5) (h6 : NumAt w v6 n6 6 is6) (ha : I64 qa) (hb : I64 qb) (hc : I64 qc) (hd : I64 qd) (hoth : I64 oth) :
    Calls Try.prog 3 #[.agg #[v1, v2, v3], .agg #[v4, v5, v6], .agg #[.int .i64 qa, .int .i64 qb, .int .i64 qc, .int .i64 qd], .int .i64 oth] w fun e w' => e = .returned (.bool true) ∧ Below w.heap.size w w' := by
  obtain ⟨a4, p4, rfl⟩ := h4.sl.val
  obtain ⟨a5, p5, rfl⟩ := h5.sl.val
  obtain ⟨a6, p6, rfl⟩ := h6.sl.val
  have H4 := Lib.hid h4; have H5 := Lib.hid h5; have H6 := Lib.hid h6
  clear h4 h5 h6
  obtain ⟨a1, p1, rfl⟩ := h1.sl.val
  obtain ⟨a2, p2, rfl⟩ := h2.sl.val
  obtain ⟨a3, p3, rfl⟩ := h3.sl.val
  have HA := Lib.hid (allocs_at [.cells #[.slice a1 n1 p1, .slice a2 n2 p2, .slice a3 n3 p3] 25, .cells #[.slice a4 n4 p4, .slice a5 n5 p5, .slice a6 n6 p6] 25, .cells #[.int .i64 qa, .int .i64 qb, .int .i64 qc, .int .i64 qd] 26] w)
  have FA : Hid (Fr [] w _) := Lib.hid (allocs_fr [.cells #[.slice a1 n1 p1, .slice a2 n2 p2, .slice a3 n3 p3] 25, .cells #[.slice a4 n4 p4, .slice a5 n5 p5, .slice a6 n6 p6] 25, .cells #[.int .i64 qa, .int .i64 qb, .int .i64 qc, .int .i64 qd] 26] w)
  have H1 := Lib.hid h1; have H2 := Lib.hid h2; have H3 := Lib.hid h3
  have CQ := Lib.hid fun W => ask_c qa qb qc qd W ha hb hc hd
  have QM := Lib.hid (askQ_m qa qb qc qd)
  have HQ : Hid (askQ qa qb qc qd = ⟨pickI qa 3, pickI qb 8, pickI qc 100, pickI qd 100⟩) := Lib.hid rfl
  rw [HQ.out] at QM
  generalize pickI qa 3 = x0 at *
  generalize pickI qb 8 = x1 at *
  generalize pickI qc 100 = x2 at *
  generalize pickI qd 100 = x3 at *
  clear h1 h2 h3 ha hb hc hd HQ
  go_enter Try.func3, Try.ntmps3
  go_wp2_with fail
  refine (sane8_c _).mono ?_
  rintro e w1 ⟨rfl, f1⟩
  have B0 : w1.heap[w.heap.size]? = _ := f1.keep (HA.out 0 (by simp)) (by simp)
  have B1 : w1.heap[w.heap.size + 1]? = _ := f1.keep (HA.out 1 (by simp)) (by simp)
  have B2 : w1.heap[w.heap.size + 1 + 1]? = _ := f1.keep (HA.out 2 (by simp)) (by simp)
  have F1 := Lib.hid (FA.out.trans f1)
  have HB0 := Lib.hid B0
  have HB1 := Lib.hid B1
  have HB2 := Lib.hid B2
  clear f1 HA FA
  have c0 := cell_of_blk B0 0; have c1 := cell_of_blk B0 1; have c2 := cell_of_blk B0 2
  have CM := Lib.hid (made_c _ _ _ n1 n2 n3 is1 is2 is3 w1 (H1.out.same F1.out) (H2.out.same F1.out) (H3.out.same F1.out))
  clear B0 B1 B2
  go_wp2_with fail
  refine CM.out.mono ?_
  rintro e w2 ⟨f2, vc, vr, vf, ys, c, rfl, hm, ho⟩
  clear c0 c1 c2 CM
  obtain ⟨ac, pc, rfl⟩ := (sl_of_row ho.cls).val
  obtain ⟨ar, pr, rfl⟩ := (sl_of_row ho.rps).val
  obtain ⟨af, pf, rfl⟩ := (sl_of_row ho.fas).val
  have hrow2 : ∀ g, (Value.slice ac ys.length pc).ownBlock = some g ∨ (Value.slice ar c.rps.length pr).ownBlock = some g ∨ (Value.slice af c.fas.length pf).ownBlock = some g → w1.heap.size ≤ g := fun g hg => by
    rcases hg with hg | hg | hg
    · have := (ho.nc g hg).1; omega
    · have := (ho.nr g hg).1; omega
    · have := ho.nf g hg; omega
  have X2 := Lib.hid (BxS.boxed f2 (ho.older (Nat.zero_le _)) hrow2)
  have B2 := (f2.trans (Fr.alloc [] w2 (.cells #[.slice ac ys.length pc, .slice ar c.rps.length pr, .slice af c.fas.length pf] 32))).keep HB1.out (by simp)
  have hb2 := blk_lt B2
  have c0 := cell_of_blk B2 0; have c1 := cell_of_blk B2 1; have c2 := cell_of_blk B2 2
  have HM := Lib.hid hm
  have FW := Lib.hid (F1.out.trans X2.out.fr)
  have CM2 := Lib.hid (made_c _ _ _ n4 n5 n6 is4 is5 is6 _ (H4.out.same FW.out) (H5.out.same FW.out) (H6.out.same FW.out))
  clear B2 f2 hrow2 hm
  go_wp2_with fail
  refine CM2.out.mono ?_
  rintro e w3 ⟨f3, vc2, vr2, vf2, ys2, m, rfl, hm2, ho2⟩
  clear c0 c1 c2 CM2
  obtain ⟨ac2, pc2, rfl⟩ := (sl_of_row ho2.cls).val
  obtain ⟨ar2, pr2, rfl⟩ := (sl_of_row ho2.rps).val
  obtain ⟨af2, pf2, rfl⟩ := (sl_of_row ho2.fas).val
  have X3 := Lib.hid ((X2.out.same f3).same (Fr.alloc [] w3 (.cells #[.slice ac2 ys2.length pc2, .slice ar2 m.rps.length pr2, .slice af2 m.fas.length pf2] 32)))
  have EB := Lib.hid (heap_alloc_new w3 (.cells #[.slice ac2 ys2.length pc2, .slice ar2 m.rps.length pr2, .slice af2 m.fas.length pf2] 32))
  have hw23 : w2.heap.size + 1 ≤ w3.heap.size := by have := f3.size; simp at this; omega
  have EO := Lib.hid (ho2.same (Fr.alloc [] w3 (.cells #[.slice ac2 ys2.length pc2, .slice ar2 m.rps.length pr2, .slice af2 m.fas.length pf2] 32)))
  have EM := Lib.hid hm2
  have hro : ∀ g, (Value.slice ac ys.length pc).ownBlock = some g → g < w2.heap.size := fun g hg => ownsRow_lt ho.cls hg
  have HRO := Lib.hid hro
  have HEQ := Lib.hid ho.eq
  have HCF := Lib.hid ho.cls
  have hyc0 : ys.length = c.cls.length := by rw [ho.eq, List.length_map]
  have hyc : ys.length ≤ 8 := by have := HM.out.nc; omega
  clear f3 ho2 hm2 hro ho hyc0 X2 H4 H5 H6
  have hszA : (w2.alloc (.cells #[.slice ac ys.length pc, .slice ar c.rps.length pr, .slice af c.fas.length pf] 32)).heap.size = w2.heap.size + 1 := Array.size_push ..
  rw [hszA] at EO
  clear hszA
  go_upto_block 0 with fail
  generalize w3.alloc (.cells #[.slice ac2 ys2.length pc2, .slice ar2 m.rps.length pr2, .slice af2 m.fas.length pf2] 32) = wa at *
  go_cut [] (fun W => Hid (BxS w1 w2.heap.size (.slice ac ys.length pc) (.slice ar c.rps.length pr) (.slice af c.fas.length pf) (ys.map nbV) ⟨c.cls.map nbC, c.rps, c.fas⟩ W) ∧ Hid (Fr (Value.slice ac ys.length pc).ownBlock.toList wa W))
  case first => as_aux_lemma =>
    go_wp2_with fail
    go_loopw [11] (fun i wr => ∃ k : Nat, k ≤ ys.length ∧ i = .int .i64 k ∧ Hid (BxS w1 w2.heap.size (.slice ac ys.length pc) (.slice ar c.rps.length pr) (.slice af c.fas.length pf) ((ys.take k).map nbV ++ ys.drop k) ⟨(c.cls.take k).map nbC ++ c.cls.drop k, c.rps, c.fas⟩ wr) ∧ Hid (Fr (Value.slice ac ys.length pc).ownBlock.toList wa wr)) (fun i _ => ys.length - (intOf i).toNat)
    case atStart => exact ⟨0, Nat.zero_le _, rfl, Lib.hid (by simpa using X3.out), Lib.hid (Fr.refl _ _)⟩
    case round =>
      obtain ⟨k, hk, rfl, H, HF⟩ := hrel
      have c20 := cell_of_blk H.out.box 0
      by_cases hlt : k < ys.length
      · obtain ⟨gc, cap, hv, _⟩ := HCF.out.form (by omega)
        cases hv
        have hkz : k < ((ys.take k).map nbV ++ ys.drop k).length := by rw [nb_len nbV ys k (by omega)]; exact hlt
        have hsl := sl_of_row H.out.own.cls
        obtain ⟨b', off', cap', hv, hcl⟩ := clRow_cells hsl k hkz
        simp only [Value.slice.injEq, Option.some.injEq, Addr.mk.injEq] at hv
        obtain ⟨⟨rfl, rfl, hv1⟩, hv2, rfl⟩ := hv
        clear hv1 hv2
        obtain ⟨u4, hu4⟩ : ∃ u, (clC (((ys.take k).map nbV ++ ys.drop k)[k]'hkz))[4]? = some u := ⟨_, rfl⟩
        have t1 := hcl 4 u4 hu4
        have t2 : wr.frozen? ⟨gc, k * 6 + 4, none⟩ = false := row_free H.out.own.cls _
        simp only [Nat.zero_add] at t1
        have HN := Lib.hid (BxS.setNb k hlt HEQ.out H.out)
        have HFN := Lib.hid (HF.out.trans (Fr.setCell (fp := [gc]) wr (p := ⟨gc, k * 6 + 4, none⟩) (.slice none 0 0) (by simp)))
        clear hcl hu4 hsl hkz
        go_wp2_with fail
        go_roundw
        case rel => exact ⟨k + 1, by omega, by go_num, HN, HFN⟩
        case measure => simp [intOf]; omega
      · obtain rfl : k = ys.length := by omega
        go_wp2_with fail
        go_meet
        case rel => exact ⟨Lib.hid (by
          have h := H.out
          rw [List.take_length, List.drop_length, List.append_nil] at h
          have e : c.cls.length = ys.length := by rw [HEQ.out, List.length_map]
          rw [List.take_of_length_le (by omega), List.drop_of_length_le (by omega), List.append_nil] at h
          exact h), HF⟩
  case rest =>
    obtain ⟨XA, HFA⟩ := hcut
    obtain ⟨wA, hwA⟩ : ∃ W : World, wc = W := ⟨_, rfl⟩
    rw [hwA] at XA HFA ⊢
    clear hwA
    have hfp : ∀ g, g ∈ (Value.slice ac ys.length pc).ownBlock.toList → g < w2.heap.size := fun g hg => HRO.out g (by simpa using hg)
    have EOA := Lib.hid ((EO.out.fr HFA.out (fun g hg => by have := hfp g hg; omega)).older (Nat.zero_le _))
    have EBA := Lib.hid (HFA.out.keep EB.out (fun hm => by have := hfp _ hm; omega))
    have HNB : Hid (∀ x, x ∈ c.cls.map nbC → x.bars = []) := Lib.hid (fun x hx => by
      obtain ⟨y, _, rfl⟩ := List.mem_map.1 hx
      rfl)
    have HMN := Lib.hid HM.out.nb
    have hyl : (ys.map nbV).length = ys.length := List.length_map ..
    obtain ⟨c', hc'⟩ : ∃ d : Rb, (⟨c.cls.map nbC, c.rps, c.fas⟩ : Rb) = d := ⟨_, rfl⟩
    obtain ⟨ys', hys'⟩ : ∃ z, ys.map nbV = z := ⟨_, rfl⟩
    have hr' : c.rps = c'.rps := by rw [← hc']
    have hf' : c.fas = c'.fas := by rw [← hc']
    have hcl' : c.cls.map nbC = c'.cls := by rw [← hc']
    rw [hc', hys'] at XA
    rw [hc'] at HMN
    rw [hcl'] at HNB
    rw [hys'] at hyl
    rw [← hyl, hr', hf'] at XA
    simp only [← hyl, hr', hf']
    clear hfp HFA EO EB X3 HRO HCF HEQ HM hc' hys' hr' hf' hcl' hyl
    obtain ⟨c, hcc⟩ : ∃ d, d = c' := ⟨_, rfl⟩
    subst hcc
    obtain ⟨ys, hyy⟩ : ∃ d, d = ys' := ⟨_, rfl⟩
    subst hyy
    have hcn := HMN.out.nc; have hrn := HMN.out.nr; have hfn := HMN.out.nf
    have hn1 := EM.out.nc; have hn2 := EM.out.nr; have hn3 := EM.out.nf
    have HYC2 : Hid (ys2.length = m.cls.length) := Lib.hid (by rw [EOA.out.eq, List.length_map])
    have hy28 : ys2.length ≤ 8 := by rw [HYC2.out]; exact hn1
    have HYC : Hid (ys.length = c.cls.length) := Lib.hid (by rw [XA.out.own.eq, List.length_map])
    have hyc8 : ys.length ≤ 8 := by rw [HYC.out]; exact hcn
    have B2 := XA.out.fr.keep HB2.out (by simp)
    have c0 := cell_of_blk B2 0; have c1 := cell_of_blk B2 1; have c2 := cell_of_blk B2 2; have c3 := cell_of_blk B2 3
    clear B2
    go_wp2_with fail
    refine (CQ.out _).mono ?_
    rintro e w4 ⟨rfl, f4⟩
    clear c0 c1 c2 c3
    have L0 : Hid (LawG w1 w2.heap.size w4.heap.size (.slice ac ys.length pc) (.slice ar c.rps.length pr) (.slice af c.fas.length pf) ys c ⟨x0, x1, x2, x3⟩ (w4.alloc (.cells #[.int .i64 x0, .int .i64 x1, .int .i64 x2, .int .i64 x3] 40))) := Lib.hid ⟨(XA.out.fr.trans f4).trans (Fr.alloc _ _ _), heap_alloc_old _ (f4.keep XA.out.box (by simp)), heap_alloc_new _ _, (XA.out.own.same f4).same (Fr.alloc _ _ _), HMN.out, ok_of HMN.out QM.out⟩
    have E0 := Lib.hid (f4.trans (Fr.alloc [] w4 (.cells #[.int .i64 x0, .int .i64 x1, .int .i64 x2, .int .i64 x3] 40)))
    have hs24 : w2.heap.size < w4.heap.size := blk_lt (f4.keep XA.out.box (by simp))
    obtain ⟨a, ea⟩ : ∃ a, decideA c ⟨x0, x1, x2, x3⟩ = a := ⟨_, rfl⟩
    obtain ⟨l, el⟩ : ∃ l, decideL c ⟨x0, x1, x2, x3⟩ = l := ⟨_, rfl⟩
    have CD := Lib.hid (decide_ok L0.out.at_ L0.out.ok a l ea el)
    have EA := Lib.hid ea
    have hl := decide_len L0.out.ok
    rw [el] at hl
    have KK : Hid (checkB c ⟨x0, x1, x2, x3⟩ a l = true) := Lib.hid (by
      have := decide_checks L0.out.ok
      rwa [ea, el] at this)
    have d0 : w4.cell? ⟨w2.heap.size, 0, none⟩ = _ := cell_of_blk (f4.keep XA.out.box (by simp)) 0
    have d1 : w4.cell? ⟨w2.heap.size, 1, none⟩ = _ := cell_of_blk (f4.keep XA.out.box (by simp)) 1
    have d2 : w4.cell? ⟨w2.heap.size, 2, none⟩ = _ := cell_of_blk (f4.keep XA.out.box (by simp)) 2
    clear ea el f4
    unfold rbV qnV at CD
    simp only at CD
    go_wp2_with fail
    refine CD.out.mono ?_
    rintro e w5 ⟨f5, v, rfl, hr, hn⟩
    clear d0 d1 d2 CD
    obtain ⟨va, vp, rfl⟩ := (sl_of_row hr).val
    have L5 := Lib.hid (L0.out.same f5)
    have E5 := Lib.hid (E0.out.trans f5)
    obtain ⟨hl0, hl20⟩ := hl
    have CU := Lib.hid (uses_c _ _ _ _ ys c ⟨x0, x1, x2, x3⟩ l w5 L5.out.at_ (sl_of_row hr))
    unfold rbV qnV at CU
    simp only at CU
    clear f5 hr hn L0 E0
    obtain ⟨⟨d0, d1, d2⟩, e0, e1, e2, e3⟩ := L5.out.cells
    go_wp2_with fail
    refine CU.out.mono ?_
    rintro e w6 ⟨f6, hu | hu⟩
    · have := hu.1
      unfold usesB at this
      have k := KK.out
      cases a <;> simp [k] at this
    obtain ⟨_, vF, vC, rfl, u6⟩ := hu
    clear d0 d1 d2 e0 e1 e2 e3 CU
    have HSU := Lib.hid (subs_use KK.out u6.s1 u6.s2)
    have U6 := Lib.hid u6
    clear u6
    generalize useF l = F at *
    generalize useC c (clausesOf c ⟨x0, x1, x2, x3⟩) l = C at *
    obtain ⟨aF, pF, rfl⟩ := (sl_of_row U6.out.r1).val
    obtain ⟨aC, pC, rfl⟩ := (sl_of_row U6.out.r2).val
    have LSM : Hid (decideA (lessOf c F C) ⟨x0, x1, x2, x3⟩ = a) := Lib.hid (check_one (leans_check HSU.out.1 HSU.out.2.1 HSU.out.2.2 KK.out)).symm
    have hF8 : F.length ≤ 8 := Nat.le_trans (asc_len HSU.out.1.fa HSU.out.1.f) hfn
    have hC8 : C.length ≤ 8 := Nat.le_trans (asc_len HSU.out.1.ca HSU.out.1.c) hcn
    have L6 := Lib.hid (L5.out.same f6)
    have E6 := Lib.hid (E5.out.trans f6)
    have CC := Lib.hid (copy_c _ _ _ ys c _ L6.out.own L6.out.made.few)
    clear f6 L5 E5
    obtain ⟨⟨d0, d1, d2⟩, e0, e1, e2, e3⟩ := L6.out.cells
    clear e0 e1 e2 e3
    go_wp2_with fail
    refine CC.out.mono ?_
    rintro e w7 ⟨f7, oc, or_, of_, zs7, rfl, ho7, hrow7⟩
    clear d0 d1 d2 CC
    obtain ⟨ac7, pc7, rfl⟩ := (sl_of_row ho7.cls).val
    obtain ⟨ar7, pr7, rfl⟩ := (sl_of_row ho7.rps).val
    obtain ⟨af7, pf7, rfl⟩ := (sl_of_row ho7.fas).val
    have X7 := Lib.hid (BxS.boxed f7 ho7 hrow7)
    have hzc7 : zs7.length = c.cls.length := by rw [ho7.eq, List.length_map]
    have HZ7 : Hid (zs7.map (·.x) = c.cls) := Lib.hid ho7.eq.symm
    have hz7 : zs7.length ≤ 8 := by omega
    have X7' : Hid (BxS w6 w7.heap.size (.slice ac7 zs7.length pc7) (.slice ar7 c.rps.length pr7) (.slice af7 c.fas.length pf7) zs7 ⟨zs7.map (·.x), c.rps, c.fas⟩ (w7.alloc (.cells #[.slice ac7 zs7.length pc7, .slice ar7 c.rps.length pr7, .slice af7 c.fas.length pf7] 32))) := Lib.hid (by rw [HZ7.out]; exact X7.out)
    clear f7 ho7 hrow7 hzc7 X7
    go_upto_block 2 with fail
    go_cut [] (fun W => ∃ vcx zz, Hid (zz.map (·.x) = c.cls ++ m.cls.map nbC) ∧ Hid (BxS w6 w7.heap.size vcx (.slice ar7 c.rps.length pr7) (.slice af7 c.fas.length pf7) zz ⟨zz.map (·.x), c.rps, c.fas⟩ W))
    case first =>
      go_wp2_with fail
      go_loopw [20] (fun i wr => ∃ (k : Nat) (vcx : Value) (zz : List ClV), k ≤ ys2.length ∧ i = .int .i64 k ∧ zz.length ≤ 8 + k ∧ Hid (zz.map (·.x) = c.cls ++ (m.cls.take k).map nbC) ∧ Hid (BxS w6 w7.heap.size vcx (.slice ar7 c.rps.length pr7) (.slice af7 c.fas.length pf7) zz ⟨zz.map (·.x), c.rps, c.fas⟩ wr)) (fun i _ => ys2.length - (intOf i).toNat)
      case atStart => exact ⟨0, _, zs7, Nat.zero_le _, rfl, hz7, Lib.hid (by rw [HZ7.out]; simp), X7'⟩
      case round =>
        obtain ⟨k, vcx, zz, hk, rfl, hzk, HZ, H⟩ := hrel
        obtain ⟨ao, po, rfl⟩ := (sl_of_row H.out.own.cls).val
        have EW := Lib.hid ((EOA.out.same E6.out).same H.out.fr)
        have c10 := cell_of_blk (H.out.fr.keep (E6.out.keep EBA.out (by simp)) (by simp)) 0
        by_cases hlt : k < ys2.length
        · obtain ⟨b, off, cap, hv, hcl⟩ := clRow_cells (sl_of_row EW.out.cls) k hlt
          cases hv
          obtain ⟨⟨⟨xp, xf, xt, xn, xb, xg⟩, vn, vb⟩, hx⟩ : ∃ y, ys2[k] = y := ⟨_, rfl⟩
          have HX := Lib.hid hx
          rw [hx] at hcl
          have d0 := hcl 0 _ rfl
          have d1 := hcl 1 _ rfl
          have d2 := hcl 2 _ rfl
          have d3 := hcl 3 _ rfl
          have d4 := hcl 4 _ rfl
          have d5 := hcl 5 _ rfl
          simp only [Nat.add_zero] at d0 d1 d2 d3 d4 d5
          have hmem : ys2[k] ∈ ys2 := List.getElem_mem hlt
          have hN := EW.out.needs _ hmem
          have hB := EW.out.bars _ hmem
          rw [hx] at hN hB
          obtain ⟨an, pn', hvn⟩ := hN.sl.val
          obtain ⟨ab, pb', hvb⟩ := hB.sl.val
          simp only at hvn hvb
          subst hvn hvb
          have HZ2 : Hid ((zz ++ [(⟨⟨xp, xf, xt, xn, [], xg⟩, .slice an xn.length pn', .slice none 0 0⟩ : ClV)]).map (·.x) = c.cls ++ (m.cls.take (k + 1)).map nbC) := Lib.hid (by
            have hkm : k < m.cls.length := by rw [← HYC2.out]; exact hlt
            rw [map_snoc _ _ _ hkm, List.map_append, HZ.out, List.append_assoc]
            have e : m.cls[k] = ys2[k].x := by simp [EOA.out.eq]
            rw [e, hx]; rfl)
          have HBA := Lib.hid (heap_alloc_new wr (.cells #[.int .i64 xp, .int .i64 xf, .int .i64 xt, .slice an xn.length pn', .slice none 0 0, .int .i64 xg] 38))
          have FX := Lib.hid (Fr.alloc [] wr (.cells #[.int .i64 xp, .int .i64 xf, .int .i64 xt, .slice an xn.length pn', .slice none 0 0, .int .i64 xg] 38))
          have hgb := blk_lt H.out.box
          have cx := cell_of_blk H.out.box 0
          clear hcl hx hN hB
          go_wp2_with (first | ((with_reducible refine wpList_of_wp (o := ⟨some 94, _, _, _, _, _⟩) rfl (fun K hK => ?_)); apply stop_in; case _other => exact trivial))
          (refine stop_in ?_ ?_; rotate_left; exact trivial)
          clear d0 d1 d2 d3 d4 d5 c10 cx hgb
          have hsx : (wr.alloc (.cells #[.int .i64 xp, .int .i64 xf, .int .i64 xt, .slice an xn.length pn', .slice none 0 0, .int .i64 xg] 38)).heap.size = wr.heap.size + 1 := Array.size_push ..
          have HSr := srcAt_new (wr.alloc (.cells #[.int .i64 xp, .int .i64 xf, .int .i64 xt, .slice an xn.length pn', .slice none 0 0, .int .i64 xg] 38)) #[.int .i64 xp, .int .i64 xf, .int .i64 xt, .slice an xn.length pn', .slice none 0 0, .int .i64 xg] 38
          rw [hsx] at HSr
          have FY := FX.out.trans (Fr.alloc [] (wr.alloc (.cells #[.int .i64 xp, .int .i64 xf, .int .i64 xt, .slice an xn.length pn', .slice none 0 0, .int .i64 xg] 38)) (.cells #[.int .i64 xp, .int .i64 xf, .int .i64 xt, .slice an xn.length pn', .slice none 0 0, .int .i64 xg] 38))
          generalize (wr.alloc (.cells #[.int .i64 xp, .int .i64 xf, .int .i64 xt, .slice an xn.length pn', .slice none 0 0, .int .i64 xg] 38)).alloc (.cells #[.int .i64 xp, .int .i64 xf, .int .i64 xt, .slice an xn.length pn', .slice none 0 0, .int .i64 xg] 38) = WY at *
          have X8 := H.out.same FY
          refine wp_append_src (.tmp 91) (.tmp 93) 28 38 _ 6 80 rfl Try.underlying28 infoCl rfl (by decide) (.slice ao zz.length po) zz.length _ rfl X8.own.cls (.slice (some ⟨wr.heap.size + 1, 0, none⟩) 1 1) 1 [.int .i64 xp, .int .i64 xf, .int .i64 xt, .slice an xn.length pn', .slice none 0 0, .int .i64 xg] rfl HSr rfl (by simp [Value.oneCell']) (by omega) (by omega) ?_
          intro ga cap W8 r8 f8 b8
          refine hK _ _ ?_
          clear hK K
          have EO8 := EW.out.same FY
          have P8 := X8.putCl (y := ⟨⟨xp, xf, xt, xn, [], xg⟩, .slice an xn.length pn', .slice none 0 0⟩) (by have := EO8.needs _ (List.getElem_mem hlt); rw [HX.out] at this; exact this) ⟨Sl.nil _, ⟨.inl ⟨rfl, rfl, rfl⟩⟩⟩ (fun g hg => by
            have hg : (Value.slice an xn.length pn').ownBlock = some g := hg.elim id (fun h => by cases h)
            have hge : g < w6.heap.size := ((EOA.out.same E6.out).term _ (List.getElem_mem hlt) g (.inl (by rw [HX.out]; exact hg))).2.1
            have hrw := X8.rows; have hbb := X8.hb; have hsz := X8.fr.size
            exact ⟨by omega, by omega, fun e => by have := hrw g (.inl e); omega, fun e => by have := hrw g (.inr (.inl e)); omega, fun e => by have := hrw g (.inr (.inr e)); omega⟩) r8 rfl rfl f8 b8
          have K8 := f8.keep X8.box (fun hm => X8.nb (.inl (by simpa using hm)))
          have t1 : W8.cell? ⟨w7.heap.size, 0, none⟩ = some (.slice ao zz.length po) := cell_of_blk K8 0
          have t2 : W8.frozen? ⟨w7.heap.size, 0, none⟩ = false := free_of_blk K8 0
          have HP8 := Lib.hid P8
          clear K8 P8 EO8 r8 f8 b8 X8 HSr FY hsx
          go_wp2_with fail
          go_roundw
          case rel => exact ⟨k + 1, _, _, by omega, by go_num, by rw [List.length_append]; simp; omega, HZ2, by rw [List.map_append]; exact HP8⟩
          case measure => simp [intOf]; omega
        · obtain rfl : k = ys2.length := by omega
          go_wp2_with fail
          go_meet
          case rel => exact ⟨_, zz, Lib.hid (by rw [HZ.out, List.take_of_length_le (by rw [← HYC2.out]; exact Nat.le_refl _)]), H⟩
    case rest =>
      obtain ⟨vcx, zz, HZ8, H8⟩ := hcut
      obtain ⟨ac8, pc8, rfl⟩ := (sl_of_row H8.out.own.cls).val
      obtain ⟨w8, hw8⟩ : ∃ W : World, wc = W := ⟨_, rfl⟩
      rw [hw8] at H8 ⊢
      clear hw8
      have E8 := Lib.hid (E6.out.trans H8.out.fr)
      have EM8 := Lib.hid (EOA.out.same E8.out)
      have c12 := cell_of_blk (E8.out.keep EBA.out (by simp)) 2
      have cx := cell_of_blk H8.out.box 2
      go_wp2_with (first | ((with_reducible refine wpList_of_wp (o := ⟨some 100, _, _, _, _, _⟩) rfl (fun K hK => ?_)); apply stop_in; case _other => exact trivial))
      (refine stop_in ?_ ?_; rotate_left; exact trivial)
      clear c12 cx
      refine wp_append_src (.tmp 97) (.tmp 99) 30 50 _ 6 48 rfl Try.underlying30 infoFa rfl (by decide) (.slice af7 c.fas.length pf7) c.fas.length _ rfl H8.out.own.fas (.slice af2 m.fas.length pf2) m.fas.length _ rfl (srcAt_of_row EM8.out.fas) (faC_len _) (faC_one _) (by omega) (by omega) ?_
      intro g9 cap9 W9 r9 f9 b9
      refine hK _ _ ?_
      clear hK K
      have P9 := H8.out.putFa (rs := m.fas) (v' := .slice g9 (c.fas.length + m.fas.length) cap9) r9 (by simp) (by simp) f9 (own_new b9)
      have K9 := f9.keep H8.out.box (H8.out.beside.2.2 _ (.inr rfl))
      have t1 : W9.cell? ⟨w7.heap.size, 2, none⟩ = some (.slice af7 c.fas.length pf7) := cell_of_blk K9 2
      have t2 : W9.frozen? ⟨w7.heap.size, 2, none⟩ = false := free_of_blk K9 2
      have t3 : W9.cell? ⟨w7.heap.size, 0, none⟩ = some (.slice ac8 zz.length pc8) := cell_of_blk K9 0
      have t4 : W9.cell? ⟨w7.heap.size, 1, none⟩ = some (.slice ar7 c.rps.length pr7) := cell_of_blk K9 1
      have P9' := Lib.hid P9
      have HGR : Hid ((⟨zz.map (·.x), c.rps, c.fas ++ m.fas⟩ : Rb) = ⟨c.cls ++ m.cls.map nbC, c.rps, c.fas ++ m.fas⟩) := Lib.hid (by rw [HZ8.out])
      simp only at P9'
      have GOK := Lib.hid (grown_ok HMN.out EM.out QM.out)
      rw [← HGR.out] at GOK
      have L9 := Lib.hid (L6.out.same P9'.out.fr)
      have LQ : W9.heap[w4.heap.size]? = _ := f9.keep (H8.out.fr.keep L6.out.qbox (by simp)) (H8.out.beside.2.2 _ (.inl (blk_lt L6.out.qbox)))
      have e0 := cell_of_blk LQ 0; have e1 := cell_of_blk LQ 1; have e2 := cell_of_blk LQ 2; have e3 := cell_of_blk LQ 3
      have hq7 : w4.heap.size ≠ w7.heap.size := by have := blk_lt L6.out.qbox; have := H8.out.hb; omega
      have hq7' : w7.heap.size ≠ w4.heap.size := fun e => hq7 e.symm
      obtain ⟨b, eb⟩ : ∃ b, decideA ⟨zz.map (·.x), c.rps, c.fas ++ m.fas⟩ ⟨x0, x1, x2, x3⟩ = b := ⟨_, rfl⟩
      obtain ⟨lb, elb⟩ : ∃ lb, decideL ⟨zz.map (·.x), c.rps, c.fas ++ m.fas⟩ ⟨x0, x1, x2, x3⟩ = lb := ⟨_, rfl⟩
      have CD9 := Lib.hid (decide_ok (q := ⟨x0, x1, x2, x3⟩) (P9'.out.own.at_ GOK.out.2) GOK.out.1 b lb eb elb)
      have HAB : Hid (a = true → b = true) := Lib.hid fun h => by
        rw [← eb]
        exact grow_mono (c := c) (E := m.cls.map nbC) (E' := m.fas) (by show zz.map (·.x) = _; rw [HZ8.out]) rfl rfl HNB.out L6.out.ok GOK.out.1 (EA.out.trans h)
      clear P9 K9 LQ r9 f9 b9 eb elb
      unfold rbV qnV at CD9
      simp only at CD9
      go_wp2_with fail
      refine CD9.out.mono ?_
      rintro e w10 ⟨f10, v10, rfl, r10, n10⟩
      clear t1 t2 t3 t4 e0 e1 e2 e3 CD9 hq7 hq7'
      have L10 := Lib.hid (L9.out.same f10)
      have U10 := Lib.hid ((U6.out.same P9'.out.fr).same f10)
      clear r10 n10 f10 L9 P9' H8
      go_upto_region 21 with fail
      go_cut [125] (fun s W => s = .bool false ∧ w10 = W)
      case first => as_aux_lemma =>
        have hab := HAB.out
        cases a with
        | false =>
          go_wp2_with fail
          go_meet
          case rel => exact ⟨rfl, rfl⟩
        | true =>
          have hb := hab rfl
          subst hb
          clear hab
          go_wp2_with fail
          go_meet
          case rel => exact ⟨rfl, rfl⟩
      case rest =>
        obtain ⟨rfl, hw⟩ := hcut
        subst hw
        have hb5 := blk_lt L10.out.cbox
        have X0 := Lib.hid (BxS.start (Fr.alloc [] w10 (.cells #[.slice none 0 0, .slice none 0 0, .slice none 0 0] 32)) (Nat.le_refl _) (heap_alloc_new _ _))
        go_upto_block 4 with fail
        go_cut [] (fun W => ∃ vfx, Hid (BxS w10 w10.heap.size (.slice none 0 0) (.slice none 0 0) vfx [] ⟨[], [], F.map c.fa⟩ W))
        case first =>
          go_wp2_with fail
          go_loopw [26] (fun i wr => ∃ (k : Nat) (vfx : Value) (zs : List Fa), k ≤ F.length ∧ i = .int .i64 k ∧ zs.length = k ∧ Hid (zs = (F.take k).map c.fa) ∧ Hid (BxS w10 w10.heap.size (.slice none 0 0) (.slice none 0 0) vfx [] ⟨[], [], zs⟩ wr)) (fun i _ => F.length - (intOf i).toNat)
          case atStart => exact ⟨0, _, [], Nat.zero_le _, rfl, rfl, Lib.hid rfl, X0⟩
          case round =>
            obtain ⟨k, vfx, zs, hk, rfl, hzk, HZ, H⟩ := hrel
            obtain ⟨ao, po, rfl⟩ := (sl_of_row H.out.own.fas).val
            have HZK := Lib.hid hzk
            clear hzk
            by_cases hlt : k < F.length
            · obtain ⟨m, hm, hml, hfa⟩ := subs_f HSU.out.1 hlt
              have HXE := Lib.hid hfa
              have MM := Lib.hid hm
              obtain ⟨b1, o1, h, hc1⟩ := (sl_of_row (row_fr U10.out.r1 H.out.fr (by simp))).at_ (by omega)
              subst h
              have c1 := hc1 k (.int .i64 (m : Int)) (by simp [intC, hlt, hm])
              have LW := L10.out.same H.out.fr
              obtain ⟨b, off, cap, hv, hcl⟩ := faRow_cells (sl_of_row LW.own.fas) m hml
              cases hv
              have cb := cell_of_blk LW.cbox 2
              have cx := cell_of_blk H.out.box 2
              obtain ⟨⟨xt0, xs, xf, xt, xkf, xkt⟩, hx⟩ : ∃ y, c.fas[m] = y := ⟨_, rfl⟩
              rw [hx] at hcl
              have e0 := hcl 0 _ rfl
              have e1 := hcl 1 _ rfl
              have e2 := hcl 2 _ rfl
              have e3 := hcl 3 _ rfl
              have e4 := hcl 4 _ rfl
              have e5 := hcl 5 _ rfl
              simp only [Nat.add_zero] at e0 e1 e2 e3 e4 e5
              have hb1 : b1 < w10.heap.size := ownsRow_lt U10.out.r1 rfl
              have hb2 : b < w10.heap.size := ownsRow_lt L10.out.own.fas rfl
              have NB := H.out.beside.2.2
              have n1 := NB b1 (.inl hb1); have n2 := NB b (.inl hb2); have n3 := NB w2.heap.size (.inl hb5); have n4 := NB w10.heap.size (.inr rfl)
              have HZ2 : Hid (zs ++ [⟨xt0, xs, xf, xt, xkf, xkt⟩] = (F.take (k + 1)).map c.fa) := Lib.hid (by rw [map_snoc _ _ _ hlt, HXE.out, hx, HZ.out])
              have hml' : (m : Int) < (c.fas.length : Int) := by omega
              have hml2 : decide (c.fas.length ≤ m) = false := by simpa using hml
              have N1 := Lib.hid n1; have N2 := Lib.hid n2; have N3 := Lib.hid n3; have N4 := Lib.hid n4
              have hz8 : zs.length ≤ 8 := by have := HZK.out; omega
              clear hcl hfa hm NB LW n1 n2 n3 n4 hx hc1
              go_wp2_with fail
              refine reg_mix (Fr [] wr) [0, 1, 2, 3, 4, 5, 6, 7, 8, 9, 10, 11, 12, 13, 14] (by kernel_rfl) (by kernel_rfl) (by kernel_rfl) rfl (Fr.drew _ _) ?_
              have FC : Fr [] wr wr.drew := Fr.drew _ _
              generalize wr.drew = WC at FC ⊢
              iterate 6 (refine mix_take1 (v := ?_) rfl rfl rfl rfl (fun w hS => ?_) ?_; rotate_left; (focus (have s0 := hS.cell c1 (by simp); have s1 := hS.cell cb (by simp); clear hS; go_simp; rfl)); simp only [List.setIfInBounds_toArray, List.set_cons_succ, List.set_cons_zero])
              iterate 8 (refine mix_takeg (v := ?_) rfl rfl rfl rfl rfl rfl (fun w hS => ?_) ?_; rotate_left; (focus (have s0 := hS.cell c1 (by simp); have s1 := hS.cell cb (by simp); clear hS; go_simp; rfl)); simp only [List.setIfInBounds_toArray, List.set_cons_succ, List.set_cons_zero])
              (refine mix_take1 (v := ?_) rfl rfl rfl rfl (fun w hS => ?_) ?_; rotate_left; (focus (have s0 := hS.cell c1 (by simp); have s1 := hS.cell cb (by simp); clear hS; go_simp; rfl)); simp only [List.setIfInBounds_toArray, List.set_cons_succ, List.set_cons_zero])
              refine mix_end ?_
              go_wp2_with fail
              refine reg_fin (Fr (Value.slice ao zs.length po).ownBlock.toList wr) 13 [0, 1, 2, 3, 4, 5, 6, 7, 8, 9, 10, 11, 12, 13] (by kernel_rfl) (by kernel_rfl) (by kernel_rfl) rfl ?_
              have F0 : Fr [] wr WC.drew := FC.trans (Fr.drew _ _)
              have FD : Fr (Value.slice ao zs.length po).ownBlock.toList wr WC.drew := (FC.mono (by simp)).trans (Fr.drew _ _)
              generalize WC.drew = WD at F0 FD ⊢
              iterate 10 (refine fin_take (v := ?_) rfl rfl rfl rfl FD (fun w hS => ?_) ?_; rotate_left; (focus (have s0 := hS.cell c1 N1.out; have s1 := hS.cell cb N3.out; have s2 := hS.cell cx N4.out; have s3 := hS.cell e0 N2.out; have s4 := hS.cell e1 N2.out; have s5 := hS.cell e2 N2.out; have s6 := hS.cell e3 N2.out; have s7 := hS.cell e4 N2.out; have s8 := hS.cell e5 N2.out; clear hS; go_simp; rfl)); simp only [List.setIfInBounds_toArray, List.set_cons_succ, List.set_cons_zero])
              refine fin_do rfl rfl rfl (fun K hK => ?_)
              go_simp
              have FY := FD.trans (Fr.alloc (Value.slice ao zs.length po).ownBlock.toList WD (.cells #[.int .i64 xt0, .int .i64 xs, .int .i64 xf, .int .i64 xt, .int .i64 xkf, .int .i64 xkt] 50))
              have FY0 := F0.trans (Fr.alloc [] WD (.cells #[.int .i64 xt0, .int .i64 xs, .int .i64 xf, .int .i64 xt, .int .i64 xkf, .int .i64 xkt] 50))
              refine hK _ _ FY ?_
              clear hK K
              try simp only [Act.put, List.setIfInBounds_toArray, List.set_cons_succ, List.set_cons_zero]
              have HSr := srcAt_new WD #[.int .i64 xt0, .int .i64 xs, .int .i64 xf, .int .i64 xt, .int .i64 xkf, .int .i64 xkt] 50
              generalize WD.alloc (.cells #[.int .i64 xt0, .int .i64 xs, .int .i64 xf, .int .i64 xt, .int .i64 xkf, .int .i64 xkt] 50) = WY at *
              have X7 := H.out.same FY0
              refine fin_do (o := ⟨some 159, _, _, _, _, _⟩) rfl rfl rfl (fun K hK => ?_)
              refine wp_append_src (.tmp 149) (.tmp 158) 30 50 _ 6 48 rfl Try.underlying30 infoFa rfl (by decide) (.slice ao zs.length po) zs.length _ rfl X7.own.fas (.slice (some ⟨WD.heap.size, 0, none⟩) 1 1) 1 [.int .i64 xt0, .int .i64 xs, .int .i64 xf, .int .i64 xt, .int .i64 xkf, .int .i64 xkt] rfl HSr rfl (by simp [Value.oneCell']) (by omega) (by omega) ?_
              intro ga cap8 W8 r8 f8 b8
              have F8 := FY.trans f8
              refine hK _ _ F8 ?_
              clear hK K
              try simp only [Act.put, List.setIfInBounds_toArray, List.set_cons_succ, List.set_cons_zero]
              (refine fin_take (v := ?_) rfl rfl rfl rfl F8 (fun w hS => ?_) ?_; rotate_left; (focus (have s0 := hS.cell c1 N1.out; have s1 := hS.cell cb N3.out; have s2 := hS.cell cx N4.out; have s3 := hS.cell e0 N2.out; have s4 := hS.cell e1 N2.out; have s5 := hS.cell e2 N2.out; have s6 := hS.cell e3 N2.out; have s7 := hS.cell e4 N2.out; have s8 := hS.cell e5 N2.out; clear hS; go_simp; rfl)); simp only [List.setIfInBounds_toArray, List.set_cons_succ, List.set_cons_zero])
              have P8 := X7.putFa (rs := [⟨xt0, xs, xf, xt, xkf, xkt⟩]) r8 (by simp) (by simp [faC]) f8 (own_new b8)
              have K8 := f8.keep X7.box (X7.beside.2.2 _ (.inr rfl))
              have t1 : W8.cell? ⟨w10.heap.size, 2, none⟩ = some (.slice ao zs.length po) := cell_of_blk K8 2
              have t2 : W8.frozen? ⟨w10.heap.size, 2, none⟩ = false := free_of_blk K8 2
              refine fin_last (o := ⟨none, _, _, _, _, _⟩) rfl rfl rfl (fun K hK => ?_)
              go_simp
              try go_upon
              try go_simp
              refine hK _ _ ?_
              clear hK K
              have HP8 := Lib.hid P8
              clear P8 K8 t1 t2 r8 f8 b8 X7 HSr FY FY0 F8 FD F0 FC
              clear c1 cb cx e0 e1 e2 e3 e4 e5
              go_wp2_with fail
              go_roundw
              case rel => exact ⟨k + 1, _, _, by omega, by go_num, by rw [List.length_append, HZK.out]; rfl, HZ2, HP8⟩
              case measure => simp [intOf]; omega
            · obtain rfl : k = F.length := by omega
              go_wp2_with fail
              go_meet
              case rel => exact ⟨_, by rw [HZ.out, List.take_length] at H; exact H⟩
        case rest =>
          obtain ⟨vfx, H1⟩ := hcut
          obtain ⟨afx, pfx, rfl⟩ := (sl_of_row H1.out.own.fas).val
          obtain ⟨fx, hfx⟩ : ∃ fx, F.map c.fa = fx := ⟨_, rfl⟩
          simp only [hfx] at H1 ⊢
          have HFX := Lib.hid hfx
          clear hfx
          go_upto_block 6 with fail
          go_cut [] (fun W => ∃ vcx zs, Hid (zs.map (·.x) = C.map c.cl) ∧ Hid (BxS w10 w10.heap.size vcx (.slice none 0 0) (.slice afx fx.length pfx) zs ⟨zs.map (·.x), [], fx⟩ W))
          case first =>
            go_wp2_with fail
            go_loopw [27] (fun i wr => ∃ (k : Nat) (vcx : Value) (zs : List ClV), k ≤ C.length ∧ i = .int .i64 k ∧ zs.length = k ∧ Hid (zs.map (·.x) = (C.take k).map c.cl) ∧ Hid (BxS w10 w10.heap.size vcx (.slice none 0 0) (.slice afx fx.length pfx) zs ⟨zs.map (·.x), [], fx⟩ wr)) (fun i _ => C.length - (intOf i).toNat)
            case atStart => exact ⟨0, _, [], Nat.zero_le _, rfl, rfl, Lib.hid rfl, H1⟩
            case round =>
              obtain ⟨k, vcx, zs, hk, rfl, hzk, HZ, H⟩ := hrel
              obtain ⟨ao, po, rfl⟩ := (sl_of_row H.out.own.cls).val
              have HZK := Lib.hid hzk
              clear hzk
              by_cases hlt : k < C.length
              · obtain ⟨m, hm, hml, hcl0⟩ := subs_c HSU.out.1 hlt
                have HXE := Lib.hid hcl0
                have MM := Lib.hid hm
                obtain ⟨b1, o1, h, hc1⟩ := (sl_of_row (row_fr U10.out.r2 H.out.fr (by simp))).at_ (by omega)
                subst h
                have c1 := hc1 k (.int .i64 (m : Int)) (by simp [intC, hlt, hm])
                have LW := L10.out.same H.out.fr
                have hmly : m < ys.length := by rw [HYC.out]; exact hml
                obtain ⟨b, off, cap, hv, hcl⟩ := clRow_cells (sl_of_row LW.own.cls) m hmly
                cases hv
                have cb := cell_of_blk LW.cbox 0
                have cx := cell_of_blk H.out.box 0
                obtain ⟨⟨⟨xp, xf, xt, xn, xb, xg⟩, vn, vb⟩, hx⟩ : ∃ y, ys[m] = y := ⟨_, rfl⟩
                rw [hx] at hcl
                have e0 := hcl 0 _ rfl
                have e1 := hcl 1 _ rfl
                have e2 := hcl 2 _ rfl
                have e3 := hcl 3 _ rfl
                have e4 := hcl 4 _ rfl
                have e5 := hcl 5 _ rfl
                simp only [Nat.add_zero] at e0 e1 e2 e3 e4 e5
                have hN := LW.own.needs _ (List.getElem_mem hmly)
                have hB := LW.own.bars _ (List.getElem_mem hmly)
                rw [hx] at hN hB
                obtain ⟨an, pn', hvn⟩ := hN.sl.val
                obtain ⟨ab, pb', hvb⟩ := hB.sl.val
                simp only at hvn hvb
                subst hvn hvb
                have hb1 : b1 < w10.heap.size := ownsRow_lt U10.out.r2 rfl
                have hb2 : b < w10.heap.size := ownsRow_lt L10.out.own.cls rfl
                have NB := H.out.beside.1
                have n1 := NB b1 (.inl hb1); have n2 := NB b (.inl hb2); have n3 := NB w2.heap.size (.inl hb5); have n4 := NB w10.heap.size (.inr rfl)
                have HZ2 : Hid ((zs ++ [(⟨⟨xp, xf, xt, xn, xb, xg⟩, .slice an xn.length pn', .slice ab xb.length pb'⟩ : ClV)]).map (·.x) = (C.take (k + 1)).map c.cl) := Lib.hid (by
                  rw [map_snoc _ _ _ hlt, HXE.out, List.map_append, HZ.out]
                  have e : c.cls[m] = ys[m].x := by simp [L10.out.own.eq]
                  rw [e, hx]; rfl)
                have hml2 : decide (ys.length ≤ m) = false := by simpa using hmly
                have N1 := Lib.hid n1; have N2 := Lib.hid n2; have N3 := Lib.hid n3; have N4 := Lib.hid n4
                have hz8 : zs.length ≤ 8 := by have := HZK.out; omega
                have HX := Lib.hid hx
                clear hcl hcl0 hm NB LW n1 n2 n3 n4 hx hN hB hc1
                go_wp2_with fail
                refine reg_mix (Fr [] wr) [0, 1, 2, 3, 4, 5, 6, 7, 8, 9, 10, 11, 12, 13, 14] (by kernel_rfl) (by kernel_rfl) (by kernel_rfl) rfl (Fr.drew _ _) ?_
                have FC : Fr [] wr wr.drew := Fr.drew _ _
                generalize wr.drew = WC at FC ⊢
                iterate 6 (refine mix_take1 (v := ?_) rfl rfl rfl rfl (fun w hS => ?_) ?_; rotate_left; (focus (have s0 := hS.cell c1 (by simp); have s1 := hS.cell cb (by simp); clear hS; go_simp; rfl)); simp only [List.setIfInBounds_toArray, List.set_cons_succ, List.set_cons_zero])
                iterate 8 (refine mix_takeg (v := ?_) rfl rfl rfl rfl rfl rfl (fun w hS => ?_) ?_; rotate_left; (focus (have s0 := hS.cell c1 (by simp); have s1 := hS.cell cb (by simp); clear hS; go_simp; rfl)); simp only [List.setIfInBounds_toArray, List.set_cons_succ, List.set_cons_zero])
                (refine mix_take1 (v := ?_) rfl rfl rfl rfl (fun w hS => ?_) ?_; rotate_left; (focus (have s0 := hS.cell c1 (by simp); have s1 := hS.cell cb (by simp); clear hS; go_simp; rfl)); simp only [List.setIfInBounds_toArray, List.set_cons_succ, List.set_cons_zero])
                refine mix_end ?_
                go_wp2_with fail
                refine reg_fin (Fr (Value.slice ao zs.length po).ownBlock.toList wr) 13 [0, 1, 2, 3, 4, 5, 6, 7, 8, 9, 10, 11, 12, 13] (by kernel_rfl) (by kernel_rfl) (by kernel_rfl) rfl ?_
                have F0 : Fr [] wr WC.drew := FC.trans (Fr.drew _ _)
                have FD : Fr (Value.slice ao zs.length po).ownBlock.toList wr WC.drew := (FC.mono (by simp)).trans (Fr.drew _ _)
                generalize WC.drew = WD at F0 FD ⊢
                iterate 10 (refine fin_take (v := ?_) rfl rfl rfl rfl FD (fun w hS => ?_) ?_; rotate_left; (focus (have s0 := hS.cell c1 N1.out; have s1 := hS.cell cb N3.out; have s2 := hS.cell cx N4.out; have s3 := hS.cell e0 N2.out; have s4 := hS.cell e1 N2.out; have s5 := hS.cell e2 N2.out; have s6 := hS.cell e3 N2.out; have s7 := hS.cell e4 N2.out; have s8 := hS.cell e5 N2.out; clear hS; go_simp; rfl)); simp only [List.setIfInBounds_toArray, List.set_cons_succ, List.set_cons_zero])
                refine fin_do rfl rfl rfl (fun K hK => ?_)
                go_simp
                have FY := FD.trans (Fr.alloc (Value.slice ao zs.length po).ownBlock.toList WD (.cells #[.int .i64 xp, .int .i64 xf, .int .i64 xt, .slice an xn.length pn', .slice ab xb.length pb', .int .i64 xg] 38))
                have FY0 := F0.trans (Fr.alloc [] WD (.cells #[.int .i64 xp, .int .i64 xf, .int .i64 xt, .slice an xn.length pn', .slice ab xb.length pb', .int .i64 xg] 38))
                refine hK _ _ FY ?_
                clear hK K
                try simp only [Act.put, List.setIfInBounds_toArray, List.set_cons_succ, List.set_cons_zero]
                have HSr := srcAt_new WD #[.int .i64 xp, .int .i64 xf, .int .i64 xt, .slice an xn.length pn', .slice ab xb.length pb', .int .i64 xg] 38
                generalize WD.alloc (.cells #[.int .i64 xp, .int .i64 xf, .int .i64 xt, .slice an xn.length pn', .slice ab xb.length pb', .int .i64 xg] 38) = WY at *
                have X7 := H.out.same FY0
                refine fin_do (o := ⟨some 193, _, _, _, _, _⟩) rfl rfl rfl (fun K hK => ?_)
                refine wp_append_src (.tmp 183) (.tmp 192) 28 38 _ 6 80 rfl Try.underlying28 infoCl rfl (by decide) (.slice ao zs.length po) zs.length _ rfl X7.own.cls (.slice (some ⟨WD.heap.size, 0, none⟩) 1 1) 1 [.int .i64 xp, .int .i64 xf, .int .i64 xt, .slice an xn.length pn', .slice ab xb.length pb', .int .i64 xg] rfl HSr rfl (by simp [Value.oneCell']) (by omega) (by omega) ?_
                intro ga cap8 W8 r8 f8 b8
                have F8 := FY.trans f8
                refine hK _ _ F8 ?_
                clear hK K
                try simp only [Act.put, List.setIfInBounds_toArray, List.set_cons_succ, List.set_cons_zero]
                (refine fin_take (v := ?_) rfl rfl rfl rfl F8 (fun w hS => ?_) ?_; rotate_left; (focus (have s0 := hS.cell c1 N1.out; have s1 := hS.cell cb N3.out; have s2 := hS.cell cx N4.out; have s3 := hS.cell e0 N2.out; have s4 := hS.cell e1 N2.out; have s5 := hS.cell e2 N2.out; have s6 := hS.cell e3 N2.out; have s7 := hS.cell e4 N2.out; have s8 := hS.cell e5 N2.out; clear hS; go_simp; rfl)); simp only [List.setIfInBounds_toArray, List.set_cons_succ, List.set_cons_zero])
                have P8 := X7.putCl (y := ⟨⟨xp, xf, xt, xn, xb, xg⟩, .slice an xn.length pn', .slice ab xb.length pb'⟩) (by have := ((L10.out.same H.out.fr).same FY0).own.needs _ (List.getElem_mem hmly); rw [HX.out] at this; exact this) (by have := ((L10.out.same H.out.fr).same FY0).own.bars _ (List.getElem_mem hmly); rw [HX.out] at this; exact this) (fun g hg => by
                    have hge : g < w10.heap.size := (L10.out.own.term _ (List.getElem_mem hmly) g (by rw [HX.out]; exact hg)).2.1
                    have hrw := X7.rows; have hsz := X7.fr.size
                    exact ⟨by omega, by omega, fun e => by have := hrw g (.inl e); omega, fun e => by have := hrw g (.inr (.inl e)); omega, fun e => by have := hrw g (.inr (.inr e)); omega⟩) r8 rfl rfl f8 b8
                have K8 := f8.keep X7.box (X7.beside.1 _ (.inr rfl))
                have t1 : W8.cell? ⟨w10.heap.size, 0, none⟩ = some (.slice ao zs.length po) := cell_of_blk K8 0
                have t2 : W8.frozen? ⟨w10.heap.size, 0, none⟩ = false := free_of_blk K8 0
                refine fin_last (o := ⟨none, _, _, _, _, _⟩) rfl rfl rfl (fun K hK => ?_)
                go_simp
                try go_upon
                try go_simp
                refine hK _ _ ?_
                clear hK K
                have HP8 := Lib.hid P8
                clear P8 K8 t1 t2 r8 f8 b8 X7 HSr FY FY0 F8 FD F0 FC
                clear c1 cb cx e0 e1 e2 e3 e4 e5
                go_wp2_with fail
                go_roundw
                case rel => exact ⟨k + 1, _, _, by omega, by go_num, by rw [List.length_append, HZK.out]; rfl, HZ2, by rw [List.map_append]; exact HP8⟩
                case measure => simp [intOf]; omega
              · obtain rfl : k = C.length := by omega
                go_wp2_with fail
                go_meet
                case rel => exact ⟨_, zs, Lib.hid (by rw [HZ.out, List.take_length]), H⟩
          case rest =>
            obtain ⟨vcx, zs, HZC, H2⟩ := hcut
            obtain ⟨acx, pcx, rfl⟩ := (sl_of_row H2.out.own.cls).val
            go_upto_block 8 with fail
            go_cut [] (fun W => ∃ vrx, Hid (BxS w10 w10.heap.size (.slice acx zs.length pcx) vrx (.slice afx fx.length pfx) zs ⟨zs.map (·.x), lessR C c.rps, fx⟩ W))
            case first =>
              go_wp2_with fail
              go_loopw [28] (fun i wr => ∃ (k : Nat) (vrx : Value) (rs : List Rp), k ≤ c.rps.length ∧ i = .int .i64 k ∧ rs.length ≤ k ∧ Hid (rs = lessR C (c.rps.take k)) ∧ Hid (BxS w10 w10.heap.size (.slice acx zs.length pcx) vrx (.slice afx fx.length pfx) zs ⟨zs.map (·.x), rs, fx⟩ wr)) (fun i _ => c.rps.length - (intOf i).toNat)
              case atStart => exact ⟨0, _, [], Nat.zero_le _, rfl, Nat.le_refl _, Lib.hid rfl, H2⟩
              case round =>
                obtain ⟨k, vrx, rs, hk, rfl, hrk, HZ, H0⟩ := hrel
                have cb0 := cell_of_blk (L10.out.same H0.out.fr).cbox 1
                obtain ⟨ao0, po0, hvv⟩ := (sl_of_row H0.out.own.rps).val
                subst hvv
                obtain ⟨wo, hwo⟩ : ∃ W : World, W = wr := ⟨_, rfl⟩
                rw [← hwo] at H0 cb0 ⊢
                clear hwo
                by_cases hlt : k < c.rps.length
                · have HFU := Lib.hid (lessK_full C c.rps k hlt)
                  obtain ⟨⟨rc, rp, rf⟩, hx⟩ : ∃ y, c.rps[k] = y := ⟨_, rfl⟩
                  have HX := Lib.hid hx
                  rw [hx] at HFU
                  clear hx
                  go_wp2_with fail
                  clear cb0
                  go_loopw [29] (fun i wi => ∃ (j : Nat) (vrx : Value) (rs2 : List Rp), j ≤ C.length ∧ i = .int .i64 j ∧ rs2.length ≤ k + 1 ∧ Hid (rs2 = rs ++ lessK C ⟨rc, rp, rf⟩ j) ∧ Hid (BxS w10 w10.heap.size (.slice acx zs.length pcx) vrx (.slice afx fx.length pfx) zs ⟨zs.map (·.x), rs2, fx⟩ wi)) (fun i _ => C.length - (intOf i).toNat)
                  case atStart => exact ⟨0, _, rs, Nat.zero_le _, rfl, by omega, Lib.hid (by simp [lessK]), H0⟩
                  case round =>
                    obtain ⟨j, vrx, rs2, hj, rfl, hrk2, HZ2, H⟩ := hrel
                    rename World => wi
                    obtain ⟨ao, po, rfl⟩ := (sl_of_row H.out.own.rps).val
                    by_cases hjl : j < C.length
                    · have LW := L10.out.same H.out.fr
                      have cb := cell_of_blk LW.cbox 1
                      obtain ⟨b, off, cap, hv, hcl⟩ := rpRow_cells (sl_of_row LW.own.rps) k hlt
                      cases hv
                      rw [HX.out] at hcl
                      have e0 := hcl 0 _ rfl
                      have e1 := hcl 1 _ rfl
                      have e2 := hcl 2 _ rfl
                      simp only [Nat.add_zero] at e0 e1 e2
                      obtain ⟨b1, o1, h, hc1⟩ := (sl_of_row (row_fr U10.out.r2 H.out.fr (by simp))).at_ (by omega)
                      subst h
                      obtain ⟨x, hxj⟩ : ∃ x, C[j] = x := ⟨_, rfl⟩
                      have c1 := hc1 j (.int .i64 x) (by simp [intC, hjl, hxj])
                      have hb2 : b < w10.heap.size := ownsRow_lt L10.out.own.rps rfl
                      have cx := cell_of_blk H.out.box 1
                      have NB := H.out.beside.2.1
                      have n2 := NB b (.inl hb2); have n3 := NB w2.heap.size (.inl hb5); have n4 := NB w10.heap.size (.inr rfl)
                      have N2 := Lib.hid n2; have N3 := Lib.hid n3; have N4 := Lib.hid n4
                      clear LW hcl NB n2 n3 n4 hc1
                      by_cases hmem : x = rc
                      · subst hmem
                        have HLK := Lib.hid (lessK_yes (r := ⟨x, rp, rf⟩) HSU.out.1.ca hjl hxj)
                        have HS2 : Hid (rs2 ++ [⟨(j : Int), rp, rf⟩] = rs ++ lessK C ⟨x, rp, rf⟩ (j + 1)) := Lib.hid (by rw [HLK.out.2, HZ2.out, HLK.out.1]; simp)
                        have hr0 : rs2.length ≤ k := by rw [HZ2.out, HLK.out.1]; simpa using hrk
                        clear hxj
                        go_wp2_with fail
                        refine reg_mix (Fr [] wi) [0, 1, 2, 3, 4, 5, 6, 7, 8, 9, 10] (by kernel_rfl) (by kernel_rfl) (by kernel_rfl) rfl (Fr.drew _ _) ?_
                        have FC : Fr [] wi wi.drew := Fr.drew _ _
                        generalize wi.drew = WC at FC ⊢
                        iterate 11 (refine mix_take1 (v := ?_) rfl rfl rfl rfl (fun w hS => ?_) ?_; rotate_left; (focus (have s0 := hS.cell c1 (by simp); have s1 := hS.cell cb (by simp); have s2 := hS.cell e0 (by simp); clear hS; go_simp; rfl)); simp only [List.setIfInBounds_toArray, List.set_cons_succ, List.set_cons_zero])
                        refine mix_end ?_
                        go_wp2_with fail
                        refine reg_fin (Fr (Value.slice ao rs2.length po).ownBlock.toList wi) 19 [0, 1, 2, 3, 4, 5, 6, 7, 8, 9, 10, 11, 12, 13, 14, 15, 16, 17, 18, 19] (by kernel_rfl) (by kernel_rfl) (by kernel_rfl) rfl ?_
                        have F0 : Fr [] wi WC.drew := FC.trans (Fr.drew _ _)
                        have FD : Fr (Value.slice ao rs2.length po).ownBlock.toList wi WC.drew := (FC.mono (by simp)).trans (Fr.drew _ _)
                        generalize WC.drew = WD at F0 FD ⊢
                        iterate 16 (refine fin_take (v := ?_) rfl rfl rfl rfl FD (fun w hS => ?_) ?_; rotate_left; (focus (have s1 := hS.cell cb N3.out; have s2 := hS.cell cx N4.out; have s3 := hS.cell e1 N2.out; have s4 := hS.cell e2 N2.out; clear hS; go_simp; rfl)); simp only [List.setIfInBounds_toArray, List.set_cons_succ, List.set_cons_zero])
                        refine fin_do rfl rfl rfl (fun K hK => ?_)
                        go_simp
                        have FY := FD.trans (Fr.alloc (Value.slice ao rs2.length po).ownBlock.toList WD (.cells #[.int .i64 (j : Int), .int .i64 rp, .int .i64 rf] 52))
                        have FY0 := F0.trans (Fr.alloc [] WD (.cells #[.int .i64 (j : Int), .int .i64 rp, .int .i64 rf] 52))
                        refine hK _ _ FY ?_
                        clear hK K
                        try simp only [Act.put, List.setIfInBounds_toArray, List.set_cons_succ, List.set_cons_zero]
                        have HSr := srcAt_new WD #[.int .i64 (j : Int), .int .i64 rp, .int .i64 rf] 52
                        generalize WD.alloc (.cells #[.int .i64 (j : Int), .int .i64 rp, .int .i64 rf] 52) = WY at *
                        have X7 := H.out.same FY0
                        refine fin_do (o := ⟨some 236, _, _, _, _, _⟩) rfl rfl rfl (fun K hK => ?_)
                        refine wp_append_src (.tmp 220) (.tmp 235) 29 52 _ 3 24 rfl Try.underlying29 infoRp rfl (by decide) (.slice ao rs2.length po) rs2.length _ rfl X7.own.rps (.slice (some ⟨WD.heap.size, 0, none⟩) 1 1) 1 [.int .i64 (j : Int), .int .i64 rp, .int .i64 rf] rfl HSr rfl (by simp [Value.oneCell']) (by omega) (by omega) ?_
                        intro ga cap8 W8 r8 f8 b8
                        have F8 := FY.trans f8
                        refine hK _ _ F8 ?_
                        clear hK K
                        try simp only [Act.put, List.setIfInBounds_toArray, List.set_cons_succ, List.set_cons_zero]
                        (refine fin_take (v := ?_) rfl rfl rfl rfl F8 (fun w hS => ?_) ?_; rotate_left; (focus (have s1 := hS.cell cb N3.out; have s2 := hS.cell cx N4.out; have s3 := hS.cell e1 N2.out; have s4 := hS.cell e2 N2.out; clear hS; go_simp; rfl)); simp only [List.setIfInBounds_toArray, List.set_cons_succ, List.set_cons_zero])
                        have P8 := X7.putRp (rs := [⟨j, rp, rf⟩]) r8 (by simp) (by simp [rpC]) f8 (own_new b8)
                        have K8 := f8.keep X7.box (X7.beside.2.1 _ (.inr rfl))
                        have t1 : W8.cell? ⟨w10.heap.size, 1, none⟩ = some (.slice ao rs2.length po) := cell_of_blk K8 1
                        have t2 : W8.frozen? ⟨w10.heap.size, 1, none⟩ = false := free_of_blk K8 1
                        refine fin_last (o := ⟨none, _, _, _, _, _⟩) rfl rfl rfl (fun K hK => ?_)
                        go_simp
                        try go_upon
                        try go_simp
                        refine hK _ _ ?_
                        clear hK K
                        have HP8 := Lib.hid P8
                        clear P8 K8 t1 t2 r8 f8 b8 X7 HSr FY FY0 F8 FD F0 FC
                        clear cb cx e0 e1 e2 c1
                        go_wp2_with fail
                        go_roundw
                        case rel => exact ⟨j + 1, _, _, by omega, by go_num, by simp; omega, HS2, HP8⟩
                        case measure => simp [intOf]; omega
                      · have hne : (x == rc) = false := by simpa using hmem
                        have HS2 : Hid (rs2 = rs ++ lessK C ⟨rc, rp, rf⟩ (j + 1)) := Lib.hid (by rw [HZ2.out, lessK_no hjl (by rw [hxj]; exact hmem)])
                        clear hxj hmem
                        go_wp2_with fail
                        refine reg_mix (Fr [] wi) [0, 1, 2, 3, 4, 5, 6, 7, 8, 9, 10] (by kernel_rfl) (by kernel_rfl) (by kernel_rfl) rfl (Fr.drew _ _) ?_
                        have FC : Fr [] wi wi.drew := Fr.drew _ _
                        generalize wi.drew = WC at FC ⊢
                        iterate 11 (refine mix_take1 (v := ?_) rfl rfl rfl rfl (fun w hS => ?_) ?_; rotate_left; (focus (have s0 := hS.cell c1 (by simp); have s1 := hS.cell cb (by simp); have s2 := hS.cell e0 (by simp); clear hS; go_simp; rfl)); simp only [List.setIfInBounds_toArray, List.set_cons_succ, List.set_cons_zero])
                        refine mix_end ?_
                        clear cb cx e0 e1 e2 c1
                        have H' := Lib.hid (H.out.same FC)
                        clear FC
                        go_wp2_with fail
                        go_roundw
                        case rel => exact ⟨j + 1, _, rs2, by omega, by go_num, hrk2, HS2, H'⟩
                        case measure => simp [intOf]; omega
                    · obtain rfl : j = C.length := by omega
                      have HS2 : Hid (rs2 = lessR C (c.rps.take (k + 1))) := Lib.hid (by rw [← HFU.out, HZ2.out, HZ.out])
                      go_wp2_with fail
                      go_roundw
                      case rel => exact ⟨k + 1, _, rs2, by omega, by go_num, hrk2, HS2, H⟩
                      case measure => simp [intOf]; omega
                · obtain rfl : k = c.rps.length := by omega
                  go_wp2_with fail
                  go_meet
                  case rel => exact ⟨_, by rw [HZ.out, List.take_length] at H0; exact H0⟩
            case rest =>
              obtain ⟨vrx, H3⟩ := hcut
              obtain ⟨arx, prx, rfl⟩ := (sl_of_row H3.out.own.rps).val
              have ED : Hid (lessOf c F C = ⟨zs.map (·.x), lessR C c.rps, fx⟩) := Lib.hid (by rw [lessOf_eq, HZC.out, HFX.out])
              have I64D := Lib.hid (less_i64 L10.out.made.ok HSU.out.1 (by omega))
              rw [ED.out] at I64D LSM
              have HOK1 := Lib.hid (less_ok HSU.out.1 L10.out.ok)
              rw [ED.out] at HOK1
              have L11 := Lib.hid (L10.out.same H3.out.fr)
              obtain ⟨_, e0, e1, e2, e3⟩ := L11.out.cells
              have CP := Lib.hid fun W => lawpick8_c oth 20 W hoth (by omega) (by omega)
              have bp := pickI_bound oth 20 (by omega)
              generalize pickI oth 20 = sv at *
              have HOKP : Hid (okB c ⟨x0, sv, x2, x3⟩ = true) := Lib.hid (by
                have h := L10.out.ok
                simp only [okB, asksB, isInB, Bool.and_eq_true, decide_eq_true_eq] at h ⊢
                exact ⟨h.1, ⟨⟨h.2.1.1.1, by omega⟩, h.2.1.2⟩, h.2.2⟩)
              have HOKL := Lib.hid (less_ok HSU.out.1 HOKP.out)
              have HMO := Lib.hid (less_mono HSU.out.1 HNB.out HOKP.out)
              rw [ED.out] at HOKL HMO
              obtain ⟨w11, hw11⟩ : ∃ W : World, wc = W := ⟨_, rfl⟩
              rw [hw11] at H3 L11 e0 e1 e2 e3 ⊢
              clear hw11
              go_wp2_with fail
              refine (CP.out _).mono ?_
              rintro e w00 ⟨rfl, rfl⟩
              clear e0 e1 e2 e3
              obtain ⟨wa1, ewa⟩ : ∃ b, decideA c ⟨x0, sv, x2, x3⟩ = b := ⟨_, rfl⟩
              obtain ⟨l1, el1⟩ : ∃ b, decideL c ⟨x0, sv, x2, x3⟩ = b := ⟨_, rfl⟩
              obtain ⟨is1', eis⟩ : ∃ b, decideA ⟨zs.map (·.x), lessR C c.rps, fx⟩ ⟨x0, sv, x2, x3⟩ = b := ⟨_, rfl⟩
              obtain ⟨l2, el2⟩ : ∃ b, decideL ⟨zs.map (·.x), lessR C c.rps, fx⟩ ⟨x0, sv, x2, x3⟩ = b := ⟨_, rfl⟩
              obtain ⟨l3, el3⟩ : ∃ b, decideL ⟨zs.map (·.x), lessR C c.rps, fx⟩ ⟨x0, x1, x2, x3⟩ = b := ⟨_, rfl⟩
              have FA := Lib.hid (Fr.alloc [] w11 (.cells #[.int .i64 x0, .int .i64 sv, .int .i64 x2, .int .i64 x3] 40))
              have PB := Lib.hid (heap_alloc_new w11 (.cells #[.int .i64 x0, .int .i64 sv, .int .i64 x2, .int .i64 x3] 40))
              have L12 := Lib.hid (L11.out.same FA.out)
              have X12 := Lib.hid (H3.out.same FA.out)
              have C1 := Lib.hid (decide_ok (q := ⟨x0, sv, x2, x3⟩) L12.out.at_ HOKP.out wa1 l1 ewa el1)
              rw [ewa, eis] at HMO
              have HWI := Lib.hid HMO.out
              have C2 : Hid (∀ W, Fr [] (w11.alloc (.cells #[.int .i64 x0, .int .i64 sv, .int .i64 x2, .int .i64 x3] 40)) W → _) := Lib.hid fun W hf => decide_ok (q := ⟨x0, sv, x2, x3⟩) ((X12.out.same hf).own.at_ I64D.out) HOKL.out is1' l2 eis el2
              have C3 : Hid (∀ W, Fr [] (w11.alloc (.cells #[.int .i64 x0, .int .i64 sv, .int .i64 x2, .int .i64 x3] 40)) W → _) := Lib.hid fun W hf => decide_ok (q := ⟨x0, x1, x2, x3⟩) ((X12.out.same hf).own.at_ I64D.out) HOK1.out a l3 LSM.out el3
              clear ewa el1 eis el2 el3 HMO
              unfold rbV qnV at C1 C2 C3
              simp only at C1 C2 C3
              obtain ⟨⟨d0, d1, d2⟩, _⟩ := L11.out.cells
              have hw2l := blk_lt L11.out.cbox
              go_wp2_with fail
              refine C1.out.mono ?_
              rintro e w13 ⟨f13, v13, rfl, r13, n13⟩
              clear d0 d1 d2 C1 r13 n13 hw2l
              have F13 := Lib.hid f13
              have P13 := f13.keep PB.out (by simp)
              have p0 := cell_of_blk P13 0; have p1 := cell_of_blk P13 1; have p2 := cell_of_blk P13 2; have p3 := cell_of_blk P13 3
              have X13 := X12.out.same f13
              have g0 := cell_of_blk X13.box 0; have g1 := cell_of_blk X13.box 1; have g2 := cell_of_blk X13.box 2
              clear f13 P13 X13
              go_wp2_with fail
              refine (C2.out _ F13.out).mono ?_
              rintro e w14 ⟨f14, v14, rfl, r14, n14⟩
              clear p0 p1 p2 p3 g0 g1 g2 r14 n14
              have F14 := Lib.hid (F13.out.trans f14)
              have X14 := X12.out.same F14.out
              have g0 := cell_of_blk X14.box 0; have g1 := cell_of_blk X14.box 1; have g2 := cell_of_blk X14.box 2
              obtain ⟨_, e0, e1, e2, e3⟩ := (L12.out.same F14.out).cells
              clear f14 X14
              go_wp2_with fail
              refine (C3.out _ F14.out).mono ?_
              rintro e w15 ⟨f15, v15, rfl, r15, n15⟩
              clear g0 g1 g2 e0 e1 e2 e3 r15 n15
              have F15 := Lib.hid ((F1.out.trans L12.out.fr).trans (F14.out.trans f15))
              clear f15
              have haa : (a == a) = true := by cases a <;> rfl
              have hwi := HWI.out
              clear C2 C3
              cases wa1 with
              | true =>
                clear hwi
                go_wp2_with fail
                go_ret
                exact ⟨rfl, F15.out.below⟩
              | false =>
                cases is1' with
                | true => exact absurd (hwi rfl) (by simp)
                | false =>
                  clear hwi
                  go_wp2_with fail
                  go_ret
                  exact ⟨rfl, F15.out.below⟩

set_option maxRecDepth 100000 in
theorem walk_StatuteGrows {H : Type} {enc : TypeId × Value → H} {base : Nat} (W : World) {v0 v1 v2 v3 : Value} {d0 d1 d2 d3 : DataW H} {p0 p1 p2 p3 : List MemPlace} (k0 : Value.okWide Try.prog W .any base 25 v0) (h0 : DataW.Trod enc Try.prog W 0 (fun _ => true) true 25 v0 d0 p0) (k1 : Value.okWide Try.prog W .any base 25 v1) (h1 : DataW.Trod enc Try.prog W 0 (fun _ => true) true 25 v1 d1 p1)
    (k2 : Value.okWide Try.prog W .any base 26 v2) (h2 : DataW.Trod enc Try.prog W 0 (fun _ => true) true 26 v2 d2 p2) (k3 : Value.okWide Try.prog W .any base 3 v3) (h3 : DataW.Trod enc Try.prog W 0 (fun _ => true) true 3 v3 d3 p3) :
    Calls Try.prog 3 #[v0, v1, v2, v3] W fun e W' => e = .returned (.bool true) ∧ Below W.heap.size W W' := by
  obtain ⟨_, _, _, n1, n2, n3, is1, is2, is3, rfl, a1, a2, a3⟩ := open_numbers k0 h0
  obtain ⟨_, _, _, n4, n5, n6, is4, is5, is6, rfl, a4, a5, a6⟩ := open_numbers k1 h1
  obtain ⟨a, b, c, d, rfl, ha, hb, hc, hd⟩ := open_i4 k2 h2
  obtain ⟨x, rfl, i1, i2⟩ := open_i64 Try.underlying3 k3 h3
  exact grows_c _ _ _ _ _ _ n1 n2 n3 n4 n5 n6 is1 is2 is3 is4 is5 is6 a b c d x W a1 a2 a3 a4 a5 a6 ha hb hc hd ⟨i1, i2⟩

end Go.Proofs.Ytfidioedjmjddaa
