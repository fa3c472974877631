/-
  The walk of FilterDays.
-/
import Derived.Test.YtkopnooajikpmaaGreatQFlDy
namespace Go.Proofs.YtkopnooajikpmaaGreat
open Go.ChangeShapes Go.WideShapes Go.ChangeAt Go.RowKit Go.Deep Go.Lib

set_option maxRecDepth 1000000 in
set_option maxHeartbeats 4000000 in
theorem days_c (vx vm : Value) (nx : Nat) (xs ms : List Int) (fb qa qb qc qd qe days : Int) (w : World) (hx : NumAt w vx nx 12 xs) (hm : IntsAt w vm ms) (hmi : ∀ z, z ∈ ms → I64 z) (hfb : I64 fb) (hqa : I64 qa) (hqb : I64 qb) (hqc : I64 qc) (hqd : I64 qd) (hqe : I64 qe) (hdy : I64 days) :
    Calls Tryz.prog 7 #[vx, vm, .int .i64 fb, .agg #[.int .i64 qa, .int .i64 qb, .int .i64 qc, .int .i64 qd, .int .i64 qe], .int .i64 days] w fun e w' => e = .returned (.bool true) ∧ Below w.heap.size w w' := by
  obtain ⟨ax, px, rfl⟩ := hx.sl.val
  obtain ⟨am, pm, rfl⟩ := hm.val
  have HX := Lib.hid hx; have HM := Lib.hid hm; have HMI := Lib.hid hmi
  have CQ := Lib.hid fun W => call26_c qa qb qc qd qe W hqa hqb hqc hqd hqe
  have CQO := Lib.hid (callC_ok qa qb qc qd qe)
  have CQB := Lib.hid (callC_b qa qb qc qd qe)
  have CQA := Lib.hid (callC_at qa qb qc qd qe)
  have CP := Lib.hid fun W => lawpick26_c days 100 W hdy (by omega) (by omega)
  have bp := pickI_bound days 100 (by omega)
  obtain ⟨ca, cd, at_, lv, fw, hcq⟩ : ∃ ca cd at_ lv fw, callC qa qb qc qd qe = ⟨ca, cd, at_, lv, fw, false⟩ := ⟨_, _, _, _, _, rfl⟩
  rw [hcq] at CQ CQO CQB CQA
  generalize pickI days 100 = dd at *
  clear hx hm hmi hqa hqb hqc hqd hqe hcq hdy
  go_enter Tryz.func7, Tryz.ntmps7
  go_wp2_with fail
  refine (sane26_c _).mono ?_
  rintro e w1 ⟨rfl, f1⟩
  have F1 := Lib.hid ((Fr.alloc [] w (.cells #[.int .i64 qa, .int .i64 qb, .int .i64 qc, .int .i64 qd, .int .i64 qe] 59)).trans f1)
  have HB : Hid (w1.heap[w.heap.size]? = some (.cells #[.int .i64 qa, .int .i64 qb, .int .i64 qc, .int .i64 qd, .int .i64 qe] 59)) := Lib.hid (f1.keep (heap_alloc_new w (.cells #[.int .i64 qa, .int .i64 qb, .int .i64 qc, .int .i64 qd, .int .i64 qe] 59)) (by simp))
  have CM := Lib.hid (made26_c _ _ nx xs ms fb w1 (HX.out.same F1.out) (HM.out.same F1.out) HMI.out hfb)
  clear f1
  go_wp2_with fail
  refine CM.out.mono ?_
  rintro e w2 ⟨f2, v, ys0, dfl, rfl, ho, hok, hlen, hdf⟩
  obtain ⟨av, pv, hv⟩ := (sl_of_row ho.row).val
  obtain ⟨n, hn⟩ : ∃ n, ys0.length = n := ⟨_, rfl⟩
  rw [hn] at hv
  subst hv
  have HN0 := Lib.hid hn
  have hn8 : n ≤ 8 := by omega
  have S0 : Hid (DyS w1 w2.heap.size (.slice av n pv) ys0 dfl (w2.alloc (.cells #[.slice av n pv, .int .i64 dfl] 65))) := Lib.hid ⟨f2.trans (Fr.alloc _ _ _), heap_alloc_new _ _, ho.same (Fr.alloc _ _ _), hok, hlen, hdf⟩
  clear f2 ho hok hlen hdf CM hn HX HM HMI
  go_upto_block 0 with fail
  go_cut [] (fun W => ∃ ys, Hid (ys.length = n) ∧ Hid (DyS w1 w2.heap.size (.slice av n pv) ys dfl W) ∧ Hid (MuteTo ys n 0))
  case first =>
    go_wp2_with fail
    go_loopw [13] (fun s wr => ∃ (i : Nat) (ys : List RuV), i ≤ n ∧ s = .int .i64 i ∧ Hid (ys.length = n) ∧ Hid (DyS w1 w2.heap.size (.slice av n pv) ys dfl wr) ∧ Hid (MuteTo ys i 0)) (fun s _ => n - (intOf s).toNat)
    case atStart => exact ⟨0, ys0, Nat.zero_le _, rfl, HN0, S0, Lib.hid (MuteTo.start _)⟩
    case round =>
      obtain ⟨i, ys, hi, rfl, HL, H, HMu⟩ := hrel
      obtain ⟨w0, hw0⟩ : ∃ W : World, W = wr := ⟨_, rfl⟩
      subst hw0
      have t0 := cell_of_blk H.out.fbox 0
      by_cases hlt : i < n
      · obtain ⟨m, hm⟩ : ∃ m, Hid (∃ hi : i < ys.length, ys[i].x.cds.length = m) := ⟨_, Lib.hid ⟨by rw [HL.out]; exact hlt, rfl⟩⟩
        have hm4 : m ≤ 4 := by
          obtain ⟨hi, rfl⟩ := hm.out
          exact (H.out.ok.cds _ (List.getElem_mem hi)).1
        go_wp2_with fail
        go_loopw [14] (fun s wr => ∃ (k : Nat) (ys : List RuV), k ≤ m ∧ s = .int .i64 k ∧ Hid (ys.length = n) ∧ Hid (DyS w1 w2.heap.size (.slice av n pv) ys dfl wr) ∧ Hid (MuteTo ys i k) ∧ Hid (∃ hi : i < ys.length, ys[i].x.cds.length = m)) (fun s _ => m - (intOf s).toNat)
        case atStart => exact ⟨0, ys, Nat.zero_le _, rfl, HL, H, HMu, hm⟩
        case round =>
          obtain ⟨k, ys, hk, rfl, HL, H, HMu, hm⟩ := hrel
          obtain ⟨hiy, hcm⟩ := hm.out
          have t0 := cell_of_blk H.out.fbox 0
          obtain ⟨rb, ro, rcap, hrv, hrc⟩ := ruRow_cells (sl_of_row H.out.own.row) i hiy
          rw [HL.out] at hrv
          cases hrv
          have e0 := hrc 0 _ rfl
          simp only [Nat.add_zero] at e0
          have hrow := H.out.own.cds _ (List.getElem_mem hiy)
          have HXS := Lib.hid (H.out.ok.cds _ (List.getElem_mem hiy)).2
          obtain ⟨y, hy⟩ : ∃ y, ys[i] = y := ⟨_, rfl⟩
          have HCM := Lib.hid hcm
          rw [hy] at e0 hrow HXS HCM
          have HKM : Hid (∀ q, ys[i].x.cds.length = q → y.x.cds.length = q) := Lib.hid fun q hq => by rw [← hy]; exact hq
          obtain ⟨⟨l, act⟩, u⟩ := y
          simp only at e0 hrow HXS HCM
          have hlm : l.length = m := HCM.out
          have HY := Lib.hid hy
          by_cases hkm : k < m
          · have hkl : k < l.length := by omega
            obtain ⟨g, cap, hu, _⟩ := hrow.form (by omega)
            subst hu
            have HLM := Lib.hid hlm
            have HR := Lib.hid hrow
            clear hcm hrc hy hlm hrow
            obtain ⟨b2, o2, cap2, hv2, hc2⟩ := cdRow_cells (sl_of_row HR.out) k hkl
            cases hv2
            have x0 := hc2 0 _ rfl; have x1 := hc2 1 _ rfl; have x2 := hc2 2 _ rfl; have x3 := hc2 3 _ rfl
            simp only [Nat.add_zero, Nat.zero_add] at x0 x1 x2 x3
            have y0 := row_frz HR.out (k * 4); have y1 := row_frz HR.out (k * 4 + 1); have y2 := row_frz HR.out (k * 4 + 2); have y3 := row_frz HR.out (k * 4 + 3)
            have HKX : Hid ((ys[i].x.cds[k]'(by rw [HY.out]; exact hkl)).kind = l[k].kind) := Lib.hid (by simp only [HY.out])
            by_cases h5 : l[k].kind = 5
            · have hb5 : (l[k].kind == 5) = true := by simp [h5]
              have hdy := H.out.put (x := ⟨3, 0, 43200, false⟩) hiy HY.out hkl ⟨by decide, by constructor <;> simp [I64]⟩
              have hmy := HMu.out.put (x := ⟨3, 0, 43200, false⟩) hiy HY.out (by simp)
              have HD := Lib.hid hdy; have HMY := Lib.hid hmy
              have HL2 : Hid ((ys.set i ⟨⟨l.set k ⟨3, 0, 43200, false⟩, act⟩, .slice (some ⟨g, 0, none⟩) l.length cap⟩).length = n) := Lib.hid (by rw [List.length_set]; exact HL.out)
              have HM2 : Hid (∃ hi : i < (ys.set i ⟨⟨l.set k ⟨3, 0, 43200, false⟩, act⟩, .slice (some ⟨g, 0, none⟩) l.length cap⟩).length, (ys.set i ⟨⟨l.set k ⟨3, 0, 43200, false⟩, act⟩, .slice (some ⟨g, 0, none⟩) l.length cap⟩)[i].x.cds.length = m) := Lib.hid ⟨by rw [List.length_set]; exact hiy, by rw [List.getElem_set_self]; simpa using HLM.out⟩
              generalize l[k] = x at *
              obtain ⟨xk, xl, xh, xn⟩ := x
              simp only at x0 x1 x2 x3 hb5
              clear hdy hmy h5 hc2 HKM
              go_wp2_with fail
              go_roundw
              case rel => exact ⟨k + 1, _, by omega, by go_num, HL2, HD, HMY, HM2⟩
              case measure => simp [intOf]; omega
            · have hb5 : (l[k].kind == 5) = false := by simpa using h5
              have hmy := HMu.out.keep hiy (by rw [HY.out]; exact hkl) (by rw [HKX.out]; exact h5)
              have HMY := Lib.hid hmy
              generalize l[k] = x at *
              obtain ⟨xk, xl, xh, xn⟩ := x
              simp only at x0 x1 x2 x3 hb5
              clear hmy h5 hc2 HKM
              go_wp2_with fail
              go_roundw
              case rel => exact ⟨k + 1, ys, by omega, by go_num, HL, H, HMY, hm⟩
              case measure => simp [intOf]; omega
          · obtain rfl : k = m := by omega
            have HMY := Lib.hid (MuteTo.next hiy (by rw [hcm]; exact HMu.out))
            have hll : l.length = k := hlm
            obtain ⟨au, pu, rfl⟩ := (sl_of_row hrow).val
            clear hcm hrc hy hlm hrow
            go_wp2_with fail
            go_roundw
            case rel => exact ⟨i + 1, ys, by omega, by go_num, HL, H, HMY⟩
            case measure => simp [intOf]; omega
      · obtain rfl : i = n := by omega
        go_wp2_with fail
        go_meet
        case rel => exact ⟨ys, HL, H, HMu⟩
  case rest =>
    obtain ⟨ys, HL, H, HMu⟩ := hcut
    have B4 := H.out.fr.keep HB.out (by simp)
    have c0 := cell_of_blk B4 0; have c1 := cell_of_blk B4 1; have c2 := cell_of_blk B4 2; have c3 := cell_of_blk B4 3; have c4 := cell_of_blk B4 4
    clear B4 S0 HN0
    go_wp2_with fail
    refine (CQ.out _).mono ?_
    rintro e w4 ⟨rfl, f4⟩
    clear c0 c1 c2 c3 c4 CQ
    have hat := CQA.out
    go_upto_region 15 with fail
    have AA := alloc2' w4 (.cells #[.int .i64 ca, .int .i64 cd, .int .i64 at_, .int .i64 lv, .int .i64 fw, .bool false] 68) (.cells #[.int .i64 ca, .int .i64 cd, .int .i64 at_, .int .i64 lv, .int .i64 fw, .bool false] 68)
    have fd := ((Fr.alloc [] w4 (.cells #[.int .i64 ca, .int .i64 cd, .int .i64 at_, .int .i64 lv, .int .i64 fw, .bool false] 68)).trans (Fr.alloc [] _ (.cells #[.int .i64 ca, .int .i64 cd, .int .i64 at_, .int .i64 lv, .int .i64 fw, .bool false] 68))).trans (Fr.drew _ _)
    refine reg_fin (fun W => W.cell? ⟨w4.heap.size, 2, none⟩ = some (.int .i64 at_)) 7 [0, 1, 2, 3, 4, 5, 6, 7] (by kernel_rfl) (by kernel_rfl) (by kernel_rfl) rfl ?_
    have A1 := (Fr.drew [] _).keep AA.1 (by simp)
    have A2 := (Fr.drew [] _).keep AA.2 (by simp)
    generalize ((w4.alloc (.cells #[.int .i64 ca, .int .i64 cd, .int .i64 at_, .int .i64 lv, .int .i64 fw, .bool false] 68)).alloc (.cells #[.int .i64 ca, .int .i64 cd, .int .i64 at_, .int .i64 lv, .int .i64 fw, .bool false] 68)).drew = WD at A1 A2 fd ⊢
    clear AA
    have hn4 : w4.heap.size + 1 < WD.heap.size := blk_lt A2
    generalize hg4 : w4.heap.size = g4 at A1 A2 hn4 ⊢
    have S0 : WD.cell? ⟨g4, 2, none⟩ = some (.int .i64 at_) := cell_of_blk A1 2
    iterate 3 (refine fin_take (v := ?_) rfl rfl rfl rfl S0 (fun w hS => ?_) ?_; rotate_left; (focus (go_simp; rfl)); simp only [List.setIfInBounds_toArray, List.set_cons_succ, List.set_cons_zero])
    refine fin_do rfl rfl rfl (fun K hK => ?_)
    go_simp
    refine (CP.out _).mono ?_
    rintro e w5 ⟨rfl, rfl⟩
    refine hK _ _ S0 ?_
    clear hK K
    try simp only [Act.put, List.setIfInBounds_toArray, List.set_cons_succ, List.set_cons_zero]
    (refine fin_take (v := ?_) rfl rfl rfl rfl S0 (fun w hS => ?_) ?_; rotate_left; (focus (go_simp; rw [IntWalk.i64_in (86400 * dd) (by omega)])); simp only [List.setIfInBounds_toArray, List.set_cons_succ, List.set_cons_zero])
    (refine fin_take (v := ?_) rfl rfl rfl rfl S0 (fun w hS => ?_) ?_; rotate_left; (focus (go_simp; rw [IntWalk.i64_in (at_ + 86400 * dd) (by omega)])); simp only [List.setIfInBounds_toArray, List.set_cons_succ, List.set_cons_zero])
    (refine fin_take (v := ?_) rfl rfl rfl rfl S0 (fun w hS => ?_) ?_; rotate_left; (focus (go_simp; rfl)); simp only [List.setIfInBounds_toArray, List.set_cons_succ, List.set_cons_zero])
    have u2 : WD.cell? ⟨g4 + 1, 2, none⟩ = some (.int .i64 at_) := cell_of_blk A2 2
    have z2 := free_of_blk A2 2
    refine fin_last (o := ⟨none, _, _, _, _, _⟩) rfl rfl rfl (fun K hK => ?_)
    go_simp
    try go_upon
    try go_simp
    refine hK _ _ ?_
    clear hK K
    have B1 : (WD.setCell ⟨g4 + 1, 2, none⟩ (.int .i64 (at_ + 86400 * dd))).heap[g4]? = some (.cells #[.int .i64 ca, .int .i64 cd, .int .i64 at_, .int .i64 lv, .int .i64 fw, .bool false] 68) := heap_setCell_other _ A1 (by simp)
    have B2 : (WD.setCell ⟨g4 + 1, 2, none⟩ (.int .i64 (at_ + 86400 * dd))).heap[g4 + 1]? = some (.cells #[.int .i64 ca, .int .i64 cd, .int .i64 (at_ + 86400 * dd), .int .i64 lv, .int .i64 fw, .bool false] 68) := heap_setCell_same (i := 2) _ A2
    have FD : Fr [] w4 (WD.setCell ⟨g4 + 1, 2, none⟩ (.int .i64 (at_ + 86400 * dd))) := fd.step (Fr.setCell (fp := [g4 + 1]) _ _ (by simp)) (fun q hq => by simp at hq; exact .inr (by omega))
    have HD := Lib.hid (H.out.same (f4.trans FD))
    generalize WD.setCell ⟨g4 + 1, 2, none⟩ (.int .i64 (at_ + 86400 * dd)) = W6 at *
    clear A1 A2 S0 u2 z2 fd f4 H hn4 hg4 FD
    have HL8 : Hid ((flOf ys dfl).rus.length ≤ 8) := Lib.hid (by simpa using HD.out.len)
    have HG1 : Hid (goodF (flOf ys dfl) rb0 ⟨ca, cd, at_, lv, fw, false⟩ = true) := Lib.hid (dy_good HD.out.flB CQB.out)
    have HG2 : Hid (goodF (flOf ys dfl) rb0 ⟨ca, cd, at_ + 86400 * dd, lv, fw, false⟩ = true) := Lib.hid (dy_good HD.out.flB (caB_later CQB.out hat bp))
    have HO2 : Hid (CaOk ⟨ca, cd, at_ + 86400 * dd, lv, fw, false⟩) := Lib.hid ⟨CQO.out.caller, CQO.out.called, ⟨by show _ ≤ at_ + 86400 * dd; omega, by show at_ + 86400 * dd ≤ _; omega⟩, CQO.out.level, CQO.out.fwd⟩
    obtain ⟨da, dr, F, e1, e2, e3, e4⟩ := days_plain (f := flOf ys dfl) (c := ⟨ca, cd, at_, lv, fw, false⟩) (c' := ⟨ca, cd, at_ + 86400 * dd, lv, fw, false⟩) rfl rfl rfl (day_mod at_ dd) rfl rfl (by have := HMu.out; rw [← HL.out] at this; exact this.mute) HG2.out
    have E3 := Lib.hid e3
    have hF100 : F.length ≤ 100 := by have := HL8.out; omega
    have CD1 := Lib.hid (dy_dec HD.out.flAt CQO.out HG1.out e1)
    have CD2 := Lib.hid fun (W : World) (h : FlAt W (.slice av n pv) ys (flOf ys dfl)) => dy_dec h HO2.out HG2.out e2
    have HLN := Lib.hid HL.out
    have t0 := cell_of_blk HD.out.fbox 0; have t1 := cell_of_blk HD.out.fbox 1
    have q0 := cell_of_blk B1 0; have q1 := cell_of_blk B1 1; have q2 := cell_of_blk B1 2; have q3 := cell_of_blk B1 3; have q4 := cell_of_blk B1 4; have q5 := cell_of_blk B1 5
    have HB1 := Lib.hid B1; have HB2 := Lib.hid B2
    simp only at CD1 CD2
    clear B1 B2 e1 e2 e3 e4 HMu HB
    go_wp2_with fail
    refine CD1.out.mono ?_
    rintro e w7 ⟨f7, aF1, pF1, aP1, pP1, rfl, r7, hp7⟩
    clear t0 t1 q0 q1 q2 q3 q4 q5 CD1
    have f7' := f7.trans (Fr.alloc [] w7 (.cells #[.int .i64 da, .int .i64 dr, .slice aF1 F.length pF1, .slice aP1 0 pP1] 62))
    have H7 := Lib.hid (HD.out.same f7')
    have R7 := Lib.hid (row_fr r7 (Fr.alloc [] w7 (.cells #[.int .i64 da, .int .i64 dr, .slice aF1 F.length pF1, .slice aP1 0 pP1] 62)) (by simp))
    have P7 := Lib.hid (hp7.same (Fr.alloc [] w7 (.cells #[.int .i64 da, .int .i64 dr, .slice aF1 F.length pF1, .slice aP1 0 pP1] 62)))
    have D7 := Lib.hid (heap_alloc_new w7 (.cells #[.int .i64 da, .int .i64 dr, .slice aF1 F.length pF1, .slice aP1 0 pP1] 62))
    have B3 := f7'.keep HB2.out (by simp)
    have t0 := cell_of_blk H7.out.fbox 0; have t1 := cell_of_blk H7.out.fbox 1
    have q0 := cell_of_blk B3 0; have q1 := cell_of_blk B3 1; have q2 := cell_of_blk B3 2; have q3 := cell_of_blk B3 3; have q4 := cell_of_blk B3 4; have q5 := cell_of_blk B3 5
    have HB3 := Lib.hid B3
    have CD3 := Lib.hid (CD2.out _ H7.out.flAt)
    clear f7 f7' r7 hp7 HD B3 HB1 HB2 CD2
    go_wp2_with fail
    refine CD3.out.mono ?_
    rintro e w8 ⟨f8, aF2, pF2, aP2, pP2, rfl, r8, _⟩
    clear t0 t1 q0 q1 q2 q3 q4 q5 CD3
    have f8' := f8.trans (Fr.alloc [] w8 (.cells #[.int .i64 da, .int .i64 dr, .slice aF2 F.length pF2, .slice aP2 0 pP2] 62))
    have H8 := Lib.hid (H7.out.same f8')
    have R8 := Lib.hid (sl_of_row (row_fr r8 (Fr.alloc [] w8 (.cells #[.int .i64 da, .int .i64 dr, .slice aF2 F.length pF2, .slice aP2 0 pP2] 62)) (by simp)))
    have R78 := Lib.hid (sl_of_row (row_fr R7.out f8' (by simp)))
    have P8 := Lib.hid (P7.out.same f8')
    have B8 := f8'.keep D7.out (by simp)
    have B9 := heap_alloc_new w8 (.cells #[.int .i64 da, .int .i64 dr, .slice aF2 F.length pF2, .slice aP2 0 pP2] 62)
    have HB4 := Lib.hid (f8'.keep HB3.out (by simp))
    have v0 := cell_of_blk B8 0; have v1 := cell_of_blk B8 1; have v2 := cell_of_blk B8 2; have v3 := cell_of_blk B8 3
    have x0 := cell_of_blk B9 0; have x1 := cell_of_blk B9 1; have x2 := cell_of_blk B9 2; have x3 := cell_of_blk B9 3
    have CL : Hid (Calls Tryz.prog 39 #[dnV da dr (.slice aF1 F.length pF1) (.slice aP1 0 pP1), dnV da dr (.slice aF2 F.length pF2) (.slice aP2 0 pP2)] (w8.alloc (.cells #[.int .i64 da, .int .i64 dr, .slice aF2 F.length pF2, .slice aP2 0 pP2] 62)) fun e w' => e = .returned (.bool true) ∧ Fr [] _ w') := Lib.hid (by
      have := like26_c da dr da dr (.slice aF1 F.length pF1) (.slice aF2 F.length pF2) F F aP1 aP2 0 0 pP1 pP2 _ R78.out R8.out
      simpa using this)
    have HD7 := Lib.hid B8
    clear f8 f8' r8 H7 B8 B9 D7 HB3 R7 R8
    go_wp2_with fail
    refine CL.out.mono ?_
    rintro e w9 ⟨rfl, f9⟩
    clear v0 v1 v2 v3 x0 x1 x2 x3 CL
    have H9 := Lib.hid (H8.out.same f9)
    have B8 := f9.keep HD7.out (by simp)
    have B3 := f9.keep HB4.out (by simp)
    have v0 := cell_of_blk B8 0; have v1 := cell_of_blk B8 1; have v2 := cell_of_blk B8 2; have v3 := cell_of_blk B8 3
    have t0 := cell_of_blk H9.out.fbox 0; have t1 := cell_of_blk H9.out.fbox 1
    have q0 := cell_of_blk B3 0; have q1 := cell_of_blk B3 1; have q2 := cell_of_blk B3 2; have q3 := cell_of_blk B3 3; have q4 := cell_of_blk B3 4; have q5 := cell_of_blk B3 5
    have CK := Lib.hid (dy_chk H9.out.flAt HO2.out HG2.out E3.out aF1 aP1 pF1 pP1 (R78.out.same f9) (P8.out.same f9) hF100)
    simp only at CK
    clear f9 H8 B8 B3
    go_wp2_with fail
    refine CK.out.mono ?_
    rintro e w10 ⟨rfl, f10⟩
    go_wp2_with fail
    go_ret
    exact ⟨rfl, (F1.out.trans (H9.out.fr.trans f10)).below⟩

set_option maxRecDepth 100000 in
theorem walk_FilterDays {H : Type} {enc : TypeId × Value → H} {base : Nat} (W : World) {v0 v1 v2 v3 v4 : Value} {d0 d1 d2 d3 d4 : DataW H} {p0 p1 p2 p3 p4 : List MemPlace} (k0 : Value.okWide Tryz.prog W .any base 58 v0) (h0 : DataW.Trod enc Tryz.prog W 0 (fun _ => true) true 58 v0 d0 p0) (k1 : Value.okWide Tryz.prog W .any base 48 v1) (h1 : DataW.Trod enc Tryz.prog W 0 (fun _ => true) true 48 v1 d1 p1) (k2 : Value.okWide Tryz.prog W .any base 3 v2) (h2 : DataW.Trod enc Tryz.prog W 0 (fun _ => true) true 3 v2 d2 p2) (k3 : Value.okWide Tryz.prog W .any base 59 v3) (h3 : DataW.Trod enc Tryz.prog W 0 (fun _ => true) true 59 v3 d3 p3) (k4 : Value.okWide Tryz.prog W .any base 3 v4) (h4 : DataW.Trod enc Tryz.prog W 0 (fun _ => true) true 3 v4 d4 p4) :
    Calls Tryz.prog 7 #[v0, v1, v2, v3, v4] W fun e W' => e = .returned (.bool true) ∧ Below W.heap.size W W' := by
  obtain ⟨nx, xs, a0⟩ := open_x3s k0 h0
  obtain ⟨ms, a1, i1⟩ := open_ints k1 h1
  obtain ⟨fb, rfl, j1, j2⟩ := open_i64 Tryz.underlying3 k2 h2
  obtain ⟨qa, qb, qc, qd, qe, rfl, g1, g2, g3, g4, g5⟩ := open_x5 k3 h3
  obtain ⟨x, rfl, u1, u2⟩ := open_i64 Tryz.underlying3 k4 h4
  exact days_c _ _ nx xs ms fb qa qb qc qd qe x W a0 a1 i1 ⟨j1, j2⟩ g1 g2 g3 g4 g5 ⟨u1, u2⟩

end Go.Proofs.YtkopnooajikpmaaGreat
