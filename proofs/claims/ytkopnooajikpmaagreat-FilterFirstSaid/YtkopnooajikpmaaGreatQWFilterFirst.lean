/-
  The walk of FilterFirst.
-/
import Derived.Test.YtkopnooajikpmaaGreatQFlFi
namespace Go.Proofs.YtkopnooajikpmaaGreat
open Go.ChangeShapes Go.WideShapes Go.ChangeAt Go.RowKit Go.Deep Go.Lib

set_option maxRecDepth 1000000 in
set_option maxHeartbeats 4000000 in
theorem first_c (vx vm v1 v2 v3 : Value) (nx n1 n2 n3 : Nat) (xs ms is1 is2 is3 : List Int) (fb qa qb qc qd qe : Int) (which action : Int) (w : World) (hx : NumAt w vx nx 12 xs) (hm : IntsAt w vm ms) (hmi : ∀ z, z ∈ ms → I64 z) (hfb : I64 fb) (h1 : NumAt w v1 n1 6 is1) (h2 : NumAt w v2 n2 3 is2) (h3 : NumAt w v3 n3 6 is3) (hqa : I64 qa) (hqb : I64 qb) (hqc : I64 qc) (hqd : I64 qd) (hqe : I64 qe) (hw : I64 which) (ha : I64 action) :
    Calls Tryz.prog 5 #[vx, vm, .int .i64 fb, .agg #[v1, v2, v3], .agg #[.int .i64 qa, .int .i64 qb, .int .i64 qc, .int .i64 qd, .int .i64 qe], .int .i64 which, .int .i64 action] w fun e w' => e = .returned (.bool true) ∧ Below w.heap.size w w' := by
  obtain ⟨ax, px, rfl⟩ := hx.sl.val
  obtain ⟨am, pm, rfl⟩ := hm.val
  obtain ⟨a1, p1, rfl⟩ := h1.sl.val
  obtain ⟨a2, p2, rfl⟩ := h2.sl.val
  obtain ⟨a3, p3, rfl⟩ := h3.sl.val
  have HA := Lib.hid (allocs_at [.cells #[.slice a1 n1 p1, .slice a2 n2 p2, .slice a3 n3 p3] 25, .cells #[.int .i64 qa, .int .i64 qb, .int .i64 qc, .int .i64 qd, .int .i64 qe] 59] w)
  have FA : Hid (Fr [] w _) := Lib.hid (allocs_fr [.cells #[.slice a1 n1 p1, .slice a2 n2 p2, .slice a3 n3 p3] 25, .cells #[.int .i64 qa, .int .i64 qb, .int .i64 qc, .int .i64 qd, .int .i64 qe] 59] w)
  have HX := Lib.hid hx; have HM := Lib.hid hm; have HMI := Lib.hid hmi
  have H1 := Lib.hid h1; have H2 := Lib.hid h2; have H3 := Lib.hid h3
  have CQ := Lib.hid fun W => call26_c qa qb qc qd qe W hqa hqb hqc hqd hqe
  have CQO := Lib.hid (callC_ok qa qb qc qd qe)
  have CQB := Lib.hid (callC_b qa qb qc qd qe)
  obtain ⟨ca, cd, at_, lv, fw, hcq⟩ : ∃ ca cd at_ lv fw, callC qa qb qc qd qe = ⟨ca, cd, at_, lv, fw, false⟩ := ⟨_, _, _, _, _, rfl⟩
  rw [hcq] at CQ CQO CQB
  clear hx hm hmi h1 h2 h3 hqa hqb hqc hqd hqe hcq
  go_enter Tryz.func5, Tryz.ntmps5
  go_wp2_with fail
  refine (sane26_c _).mono ?_
  rintro e w1 ⟨rfl, f1⟩
  have F1 := Lib.hid (FA.out.trans f1)
  have HB : Hid (∀ W, Fr [] w1 W → _) := Lib.hid fun W hf => And.intro (show W.heap[w.heap.size]? = some (.cells #[.slice a1 n1 p1, .slice a2 n2 p2, .slice a3 n3 p3] 25) from hf.keep (f1.keep (HA.out 0 (by simp)) (by simp)) (by simp)) (show W.heap[w.heap.size + 1]? = some (.cells #[.int .i64 qa, .int .i64 qb, .int .i64 qc, .int .i64 qd, .int .i64 qe] 59) from hf.keep (f1.keep (HA.out 1 (by simp)) (by simp)) (by simp))
  have CM := Lib.hid (made26_c _ _ nx xs ms fb w1 (HX.out.same F1.out) (HM.out.same F1.out) HMI.out hfb)
  clear f1
  go_wp2_with fail
  refine CM.out.mono ?_
  rintro e w2 ⟨f2, v, ys, dfl, rfl, ho, hok, hlen, hdf⟩
  obtain ⟨av, pv, rfl⟩ := (sl_of_row ho.row).val
  have LF : Hid (FlOwn w.heap.size (w2.alloc (.cells #[.slice av ys.length pv, .int .i64 dfl] 65)) (.slice av ys.length pv) ys ∧ RusOk ys ∧ ys.length ≤ 8 ∧ actB dfl = true) := Lib.hid ⟨(ho.older F1.out.size).same (Fr.alloc _ _ _), hok, hlen, hdf⟩
  have LB := Lib.hid (heap_alloc_new w2 (.cells #[.slice av ys.length pv, .int .i64 dfl] 65))
  have F2 := Lib.hid (f2.trans (Fr.alloc [] w2 (.cells #[.slice av ys.length pv, .int .i64 dfl] 65)))
  have B2 := HB.out _ F2.out
  have c0 := cell_of_blk B2.1 0; have c1 := cell_of_blk B2.1 1; have c2 := cell_of_blk B2.1 2
  have CR := Lib.hid (made_c _ _ _ n1 n2 n3 is1 is2 is3 _ (H1.out.same (F1.out.trans F2.out)) (H2.out.same (F1.out.trans F2.out)) (H3.out.same (F1.out.trans F2.out)))
  clear f2 ho hok hlen hdf CM B2
  go_wp2_with fail
  refine CR.out.mono ?_
  rintro e w3 ⟨f3, vc, vr, vf, zs, b, rfl, hmd, hro⟩
  clear c0 c1 c2 CR
  obtain ⟨ac, pc, rfl⟩ := (sl_of_row hro.cls).val
  obtain ⟨ar, pr, rfl⟩ := (sl_of_row hro.rps).val
  obtain ⟨af, pf, rfl⟩ := (sl_of_row hro.fas).val
  have F3 := Lib.hid (f3.trans (Fr.alloc [] w3 (.cells #[.slice ac zs.length pc, .slice ar b.rps.length pr, .slice af b.fas.length pf] 30)))
  have RO : Hid (RbOwn w.heap.size (w3.alloc (.cells #[.slice ac zs.length pc, .slice ar b.rps.length pr, .slice af b.fas.length pf] 30)) _ _ _ zs b ∧ MadeOk b) := Lib.hid ⟨(hro.older (by have := (F1.out.trans F2.out).size; omega)).same (Fr.alloc _ _ _), hmd⟩
  have RB := Lib.hid (heap_alloc_new w3 (.cells #[.slice ac zs.length pc, .slice ar b.rps.length pr, .slice af b.fas.length pf] 30))
  have B3 := HB.out _ (F2.out.trans F3.out)
  have c0 := cell_of_blk B3.2 0; have c1 := cell_of_blk B3.2 1; have c2 := cell_of_blk B3.2 2; have c3 := cell_of_blk B3.2 3; have c4 := cell_of_blk B3.2 4
  clear f3 hmd hro B3
  go_wp2_with fail
  refine (CQ.out _).mono ?_
  rintro e w4 ⟨rfl, f4⟩
  clear c0 c1 c2 c3 c4 CQ
  have L0 : Hid (LwS w w2.heap.size w3.heap.size w4.heap.size (.slice av ys.length pv) ys dfl (.slice ac zs.length pc) (.slice ar b.rps.length pr) (.slice af b.fas.length pf) zs b ⟨ca, cd, at_, lv, fw, false⟩ (w4.alloc (.cells #[.int .i64 ca, .int .i64 cd, .int .i64 at_, .int .i64 lv, .int .i64 fw, .bool false] 68))) := Lib.hid (by
    have fa := Fr.alloc [] w4 (.cells #[.int .i64 ca, .int .i64 cd, .int .i64 at_, .int .i64 lv, .int .i64 fw, .bool false] 68)
    have f34 := f4.trans fa
    have f24 := F3.out.trans f34
    exact ⟨(F1.out.trans F2.out).trans f24, f24.keep LB.out (by simp), f34.keep RB.out (by simp), heap_alloc_new _ _, LF.out.1.same f24, LF.out.2.1, LF.out.2.2.1, LF.out.2.2.2, RO.out.1.same f34, RO.out.2, CQO.out, CQB.out, rfl⟩)
  have F4 : Hid (Fr [] w1 (w4.alloc (.cells #[.int .i64 ca, .int .i64 cd, .int .i64 at_, .int .i64 lv, .int .i64 fw, .bool false] 68))) := Lib.hid (((F2.out.trans F3.out).trans f4).trans (Fr.alloc _ _ _))
  clear f4 LF LB RO RB F2 F3 F1 CQO CQB FA HX HM HMI H1 H2 H3
  clear F4 HA HB
  obtain ⟨⟨g0, g1⟩, ⟨r0, r1, r2⟩, q0, q1, q2, q3, q4, q5⟩ := L0.out.cells
  simp only at q0 q1 q2 q3 q4 q5
  obtain ⟨da, dr, F, P, e1, e2, e3⟩ := fi_plain L0.out.good (c := ⟨ca, cd, at_, lv, fw, false⟩) rfl
  have CD := Lib.hid (kn_dec L0.out.flAt L0.out.rbAt L0.out.cok L0.out.good e1)
  have EJ : Hid (∀ j, (hj : j < ys.length) → (hk : j < F.length) → mB b ⟨ca, cd, at_, lv, fw, false⟩ ys[j].x = false ∧ matchI b ⟨ca, cd, at_, lv, fw, false⟩ ys[j].x.cds = F[j] ∧ 0 ≤ F[j]) := Lib.hid fun j hj hk => by
    have := e2 j (by simpa using hj) hk
    simp only [List.getElem_map] at this
    exact this
  have EC : Hid ((dr = -1 ∧ F.length = ys.length ∧ da = dfl) ∨ (dr = F.length ∧ ∃ h : F.length < ys.length, mB b ⟨ca, cd, at_, lv, fw, false⟩ ys[F.length].x = true ∧ da = ys[F.length].x.act)) := Lib.hid (by simpa using e3)
  have hFl : F.length ≤ ys.length := by
    rcases EC.out with h | h
    · omega
    · have := h.2.1; omega
  have HFI : Hid (FiR b ⟨ca, cd, at_, lv, fw, false⟩ F.length da dfl ys) := Lib.hid ⟨fun j hj hk => (EJ.out j hj hk).1, hFl, by
    rcases EC.out with h | h
    · exact .inl ⟨h.2.1, h.2.2.symm⟩
    · obtain ⟨_, h1, h2, h3⟩ := h
      exact .inr ⟨h1, h2, h3.symm⟩⟩
  have hy8 := L0.out.len
  simp only at CD
  clear e1 e2 e3
  go_wp2_with fail
  clear g0 g1 r0 r1 r2 q0 q1 q2 q3 q4 q5
  refine CD.out.mono ?_
  rintro e w5 ⟨f5, aF, pF, aP, pP, zp, rfl, hd⟩
  have DC : Hid (∀ W, Fr [] (w5.alloc (.cells #[.int .i64 da, .int .i64 dr, .slice aF F.length pF, .slice aP P.length pP] 62)) W → W.heap[w5.heap.size]? = some (.cells #[.int .i64 da, .int .i64 dr, .slice aF F.length pF, .slice aP P.length pP] 62) ∧ IntsAt W (.slice aF F.length pF) F) := Lib.hid fun W hf => ⟨hf.keep (heap_alloc_new w5 (.cells #[.int .i64 da, .int .i64 dr, .slice aF F.length pF, .slice aP P.length pP] 62)) (by simp), sl_of_row (row_fr hd.fails ((Fr.alloc _ _ _).trans hf) (by simp))⟩
  have L5 := Lib.hid (L0.out.same (f5.trans (Fr.alloc [] w5 (.cells #[.int .i64 da, .int .i64 dr, .slice aF F.length pF, .slice aP P.length pP] 62))))
  clear f5 hd CD L0
  go_upto_if 57 with fail
  generalize w5.alloc (.cells #[.int .i64 da, .int .i64 dr, .slice aF F.length pF, .slice aP P.length pP] 62) = W5 at *
  go_cut [21] (fun s W => s = .int .i64 F.length ∧ Hid (W = W5))
  case first =>
    obtain ⟨⟨g0, g1⟩, _⟩ := L5.out.cells
    rcases EC.out with h | h
    · obtain ⟨h1, h2, _⟩ := h
      have hb : (dr == -1) = true := by simp [h1]
      have HL : Hid (F.length = ys.length) := Lib.hid h2
      clear h2 h1
      go_wp2_with fail
      go_meet
      case rel => exact ⟨by rw [HL.out], Lib.hid rfl⟩
    · obtain ⟨h1, _⟩ := h
      have hb : (dr == -1) = false := by simp [h1]
      have HL : Hid (dr = F.length) := Lib.hid h1
      clear h1
      go_wp2_with fail
      go_meet
      case rel => exact ⟨by rw [HL.out], Lib.hid rfl⟩
  case rest =>
    obtain ⟨rfl, hW⟩ := hcut
    obtain rfl := hW.out
    clear hW
    obtain ⟨W6, hw6⟩ : ∃ W : World, W = wc := ⟨_, rfl⟩
    subst hw6
    obtain ⟨⟨g0, g1⟩, _⟩ := L5.out.cells
    have dcell := (DC.out _ (Fr.refl _ _)).1
    have d2 := cell_of_blk dcell 2
    clear dcell
    go_upto_block 0 with fail
    clear g0 g1 d2
    go_cut [] from 34 (fun W => Hid (Fr [] W6 W))
    case first =>
      go_wp2_with fail
      go_loopw [22] (fun s wr => ∃ i : Nat, i ≤ F.length ∧ s = .int .i64 i ∧ Hid (Fr [] W6 wr)) (fun s _ => F.length - (intOf s).toNat)
      case atStart => exact ⟨0, Nat.zero_le _, rfl, Lib.hid (Fr.refl _ _)⟩
      case round =>
        obtain ⟨i, hi, rfl, HF⟩ := hrel
        by_cases hlt : i < F.length
        · have hiy : i < ys.length := by omega
          have LI := Lib.hid (L5.out.same HF.out)
          have EI := EJ.out i hiy hlt
          have CM := Lib.hid (fi_mat i hiy EI.1 LI.out)
          have CW := Lib.hid fun (W : World) (hf : Fr [] _ W) => fi_why i hiy EI.2.1 EI.2.2 (LI.out.same hf)
          have DD := Lib.hid fun (W : World) (hf : Fr [] _ W) => DC.out W (HF.out.trans hf)
          clear EI
          obtain ⟨⟨g0, g1⟩, ⟨r0, r1, r2⟩, q0, q1, q2, q3, q4, q5⟩ := LI.out.cells
          simp only at q0 q1 q2 q3 q4 q5
          go_wp2_with fail
          clear g0 g1 r0 r1 r2 q0 q1 q2 q3 q4 q5
          refine CM.out.mono ?_
          rintro e w7 ⟨rfl, f7⟩
          have L7 := Lib.hid (LI.out.same f7)
          have CW7 := Lib.hid (CW.out _ f7)
          have F7 := Lib.hid f7
          clear f7 LI CM CW
          obtain ⟨⟨g0, g1⟩, ⟨r0, r1, r2⟩, q0, q1, q2, q3, q4, q5⟩ := L7.out.cells
          simp only at q0 q1 q2 q3 q4 q5
          go_wp2_with fail
          clear g0 g1 r0 r1 r2 q0 q1 q2 q3 q4 q5
          refine CW7.out.mono ?_
          rintro e w8 ⟨rfl, f8⟩
          have F8 := Lib.hid (F7.out.trans f8)
          obtain ⟨db, dI⟩ := DD.out _ F8.out
          have d2 := cell_of_blk db 2
          obtain ⟨b0, o0, rfl, hc0⟩ := dI.at_ (by omega)
          have c0 : w8.cell? ⟨b0, o0 + i, none⟩ = some (.int .i64 F[i]) := hc0 i _ (by simp [hlt])
          generalize F[i] = x at *
          clear f8 L7 CW7 F7 db dI hc0 DD
          go_wp2_with fail
          go_roundw
          case rel => exact ⟨i + 1, by omega, by go_num, Lib.hid (HF.out.trans F8.out)⟩
          case measure => simp [intOf]; omega
        · obtain rfl : i = F.length := by omega
          go_wp2_with fail
          go_meet
          case rel => exact HF
    case rest =>
      have L6 := Lib.hid (L5.out.same hcut.out)
      have DD := Lib.hid fun (W : World) (hf : Fr [] wc W) => DC.out W (hcut.out.trans hf)
      clear L5 DC hcut EJ
      have CC := Lib.hid (copy26_c _ ys dfl wc L6.out.own L6.out.ok L6.out.len)
      obtain ⟨⟨g0, g1⟩, _⟩ := L6.out.cells
      go_wp2_with fail
      clear g0 g1
      refine CC.out.mono ?_
      rintro e w7 ⟨f7, v7, zs7, rfl, hO7, hE7⟩
      have hlen7 : zs7.length = ys.length := by have := congrArg List.length hE7; simpa using this
      obtain ⟨a7, p7, hv7⟩ := (sl_of_row hO7.row).val
      rw [hlen7] at hv7
      subst hv7
      have fa := Fr.alloc [] w7 (.cells #[.slice a7 ys.length p7, .int .i64 dfl] 65)
      have hwc7 : wc.heap.size ≤ w7.heap.size := f7.size
      have DS : Hid (DyS wc w7.heap.size (.slice a7 ys.length p7) zs7 dfl (w7.alloc (.cells #[.slice a7 ys.length p7, .int .i64 dfl] 65))) := Lib.hid ⟨f7.trans fa, heap_alloc_new _ _, hO7.same fa, L6.out.ok.of_eq hE7, by have := L6.out.len; omega, L6.out.adfl⟩
      have HF7 := Lib.hid (HFI.out.of_eq hE7)
      have L8 := Lib.hid (L6.out.same (f7.trans fa))
      have HL7 := Lib.hid hlen7
      have F7 := Lib.hid (f7.trans fa)
      clear f7 fa hO7 hE7 CC hlen7
      obtain ⟨⟨g0, g1⟩, _⟩ := L8.out.cells
      have DD8 := Lib.hid fun (W : World) (hf : Fr [] (w7.alloc (.cells #[.slice a7 ys.length p7, .int .i64 dfl] 65)) W) => DD.out W (F7.out.trans hf)
      go_upto_if 122 with fail
      clear g0 g1
      generalize w7.alloc (.cells #[.slice a7 ys.length p7, .int .i64 dfl] 65) = W8 at *
      go_cut [] from 34 (fun W => ∃ (l : List RuV) (d2 : Int), Hid (l.length = ys.length) ∧ Hid (DyS wc w7.heap.size (.slice a7 ys.length p7) l d2 W) ∧ Hid (FiR b ⟨ca, cd, at_, lv, fw, false⟩ F.length da d2 l))
      case first =>
        by_cases hn : F.length < ys.length
        · obtain ⟨_, hM, hA⟩ : ∃ h : F.length < ys.length, mB b ⟨ca, cd, at_, lv, fw, false⟩ ys[F.length].x = true ∧ ys[F.length].x.act = da := by
            rcases HFI.out.ends with h | h
            · omega
            · exact h
          have CM := Lib.hid (fi_mat F.length hn hM L8.out)
          obtain ⟨g, cap, hv, _⟩ := DS.out.own.row.form (by have := HL7.out; omega)
          rw [HL7.out] at hv
          cases hv
          have HA2 := Lib.hid hA
          have CA := Lib.hid fun W => lawpick26_c action 4 W ha (by omega) (by omega)
          have ba := pickI_bound action 4 (by omega)
          have HAB := Lib.hid (act_b ba)
          generalize pickI action 4 = pa at *
          clear hM hA
          obtain ⟨⟨g0, g1⟩, ⟨r0, r1, r2⟩, q0, q1, q2, q3, q4, q5⟩ := L8.out.cells
          simp only at q0 q1 q2 q3 q4 q5
          go_wp2_with fail
          clear g0 g1 r0 r1 r2 q0 q1 q2 q3 q4 q5
          refine CM.out.mono ?_
          rintro e w9 ⟨rfl, f9⟩
          have L9 := Lib.hid (L8.out.same f9)
          have D9 := Lib.hid (DS.out.same f9)
          have dcell := (DD8.out _ f9).1
          have d0 := cell_of_blk dcell 0
          obtain ⟨rb, ro, rcap, hrv, hrc⟩ := ruRow_cells (sl_of_row L9.out.own.row) F.length hn
          cases hrv
          have e1 := hrc 1 _ rfl
          rw [HA2.out] at e1
          obtain ⟨⟨g0, g1⟩, _⟩ := L9.out.cells
          clear f9 L8 DS CM dcell hrc
          have t0 := cell_of_blk D9.out.fbox 0
          go_wp2_with (first | go_quiet (fail) | fail)
          clear d0 g0 g1 e1 t0
          go_loopw [30] (fun s wr => ∃ (i : Nat) (l : List RuV), F.length + 1 ≤ i ∧ i ≤ ys.length ∧ s = .int .i64 i ∧ Hid (l.length = ys.length) ∧ Hid (DyS wc w7.heap.size (.slice (some ⟨g, 0, none⟩) ys.length p7) l dfl wr) ∧ Hid (FiR b ⟨ca, cd, at_, lv, fw, false⟩ F.length da dfl l)) (fun s _ => ys.length - (intOf s).toNat)
          case atStart => exact ⟨F.length + 1, zs7, Nat.le_refl _, hn, by go_num, HL7, Lib.hid (D9.out.same (Fr.drewN _ _ _)), HF7⟩
          case round =>
            obtain ⟨i, l, hi1, hi2, rfl, HLl, Dl, HFl⟩ := hrel
            have t0 := cell_of_blk Dl.out.fbox 0
            by_cases hlt : i < ys.length
            · have hil : i < l.length := by rw [HLl.out]; exact hlt
              have hpt := Dl.out
              rw [← HLl.out] at hpt
              have DP := Lib.hid (hpt.putRu hil HAB.out)
              rw [HLl.out] at DP
              have FP := Lib.hid (HFl.out.set (y := ⟨⟨[], 1 + pa⟩, .slice none 0 0⟩) (show F.length < i by omega))
              have HLs : Hid ((l.set i ⟨⟨[], 1 + pa⟩, .slice none 0 0⟩).length = ys.length) := Lib.hid (by rw [List.length_set]; exact HLl.out)
              obtain ⟨rb2, ro2, rcap2, hrv2, hrc2⟩ := ruRow_cells (sl_of_row Dl.out.own.row) i hil
              rw [HLl.out] at hrv2
              cases hrv2
              have x0 := hrc2 0 _ rfl; have x1 := hrc2 1 _ rfl
              simp only [Nat.add_zero, Nat.zero_add] at x0 x1
              have y0 := row_frz Dl.out.own.row (i * 2); have y1 := row_frz Dl.out.own.row (i * 2 + 1)
              generalize l[i] = yy at *
              obtain ⟨⟨yl, ya⟩, yv⟩ := yy
              simp only at x0 x1
              clear hpt hrc2
              go_wp2_with fail
              have S0 : wr.drew.cell? ⟨w7.heap.size, 0, none⟩ = some (.slice (some ⟨g, 0, none⟩) ys.length p7) := t0
              refine reg_fin (fun W => W.cell? ⟨w7.heap.size, 0, none⟩ = some (.slice (some ⟨g, 0, none⟩) ys.length p7)) 8 [0, 1, 2, 3, 4, 5, 6, 7, 8] (by kernel_rfl) (by kernel_rfl) (by kernel_rfl) rfl ?_
              (refine fin_take (v := ?_) rfl rfl rfl rfl S0 (fun w hS => ?_) ?_; rotate_left; (focus (go_simp; rfl)); simp only [List.setIfInBounds_toArray, List.set_cons_succ, List.set_cons_zero])
              (refine fin_take (v := ?_) rfl rfl rfl rfl S0 (fun w hS => ?_) ?_; rotate_left; (focus (go_simp; rfl)); simp only [List.setIfInBounds_toArray, List.set_cons_succ, List.set_cons_zero])
              (refine fin_take (v := ?_) rfl rfl rfl rfl S0 (fun w hS => ?_) ?_; rotate_left; (focus (go_simp; rfl)); simp only [List.setIfInBounds_toArray, List.set_cons_succ, List.set_cons_zero])
              (refine fin_take (v := ?_) rfl rfl rfl rfl S0 (fun w hS => ?_) ?_; rotate_left; (focus (go_simp; rfl)); simp only [List.setIfInBounds_toArray, List.set_cons_succ, List.set_cons_zero])
              refine fin_do rfl rfl rfl (fun K hK => ?_)
              go_simp
              refine (CA.out _).mono ?_
              rintro e w10 ⟨rfl, rfl⟩
              refine hK _ _ S0 ?_
              clear hK K
              try simp only [Act.put, List.setIfInBounds_toArray, List.set_cons_succ, List.set_cons_zero]
              (refine fin_take (v := ?_) rfl rfl rfl rfl S0 (fun w hS => ?_) ?_; rotate_left; (focus (go_simp; rw [IntWalk.i64_in (1 + pa) (by omega)])); simp only [List.setIfInBounds_toArray, List.set_cons_succ, List.set_cons_zero])
              (refine fin_take (v := ?_) rfl rfl rfl rfl S0 (fun w hS => ?_) ?_; rotate_left; (focus (go_simp; rfl)); simp only [List.setIfInBounds_toArray, List.set_cons_succ, List.set_cons_zero])
              (refine fin_take (v := ?_) rfl rfl rfl rfl S0 (fun w hS => ?_) ?_; rotate_left; (focus (go_simp; first | rfl | (rw [if_pos (by omega)]))); simp only [List.setIfInBounds_toArray, List.set_cons_succ, List.set_cons_zero])
              have x0' : wr.drew.cell? ⟨g, i * 2, none⟩ = some yv := x0
              have x1' : wr.drew.cell? ⟨g, i * 2 + 1, none⟩ = some (.int .i64 ya) := x1
              have y0' : wr.drew.frozen? ⟨g, i * 2, none⟩ = false := y0
              have y1' : wr.drew.frozen? ⟨g, i * 2 + 1, none⟩ = false := y1
              refine fin_last (o := ⟨none, _, _, _, _, _⟩) rfl rfl rfl (fun K hK => ?_)
              go_simp
              try go_upon
              try go_simp
              refine hK _ _ ?_
              clear hK K
              have DQ := Lib.hid (DP.out.same (Fr.drew _ _))
              clear x0 x1 y0 y1 x0' x1' y0' y1' t0 S0
              go_wp2_with fail
              go_roundw
              case rel => exact ⟨i + 1, _, by omega, by omega, by go_num, HLs, DQ, FP⟩
              case measure => simp [intOf]; omega
            · obtain rfl : i = ys.length := by omega
              go_wp2_with fail
              refine (CA.out _).mono ?_
              rintro e w10 ⟨rfl, rfl⟩
              have u1 := cell_of_blk Dl.out.fbox 1
              have u2 := free_of_blk Dl.out.fbox 1
              have DP := Lib.hid (Dl.out.putDfl hwc7 HAB.out)
              have FP := Lib.hid (HFl.out.dfl (d2 := 1 + pa) (by rw [HLl.out]; exact hn))
              go_wp2_with fail
              go_meet
              case rel => exact ⟨l, _, HLl, DP, FP⟩
        · have h1 : da = dfl ∧ F.length = ys.length := by
            rcases HFI.out.ends with h | h
            · exact ⟨h.2.symm, h.1⟩
            · have := h.1; omega
          have hb : (da != dfl) = false := by simp [h1.1]
          have dcell := (DD8.out _ (Fr.refl _ _)).1
          have d0 := cell_of_blk dcell 0
          obtain ⟨⟨g0, g1⟩, _⟩ := L8.out.cells
          clear h1 dcell
          go_wp2_with fail
          go_meet
          case rel => exact ⟨zs7, dfl, HL7, DS, HF7⟩
      case rest =>
        obtain ⟨l, d2, HLl, D2, HFl⟩ := hcut
        obtain ⟨W9, hw9⟩ : ∃ W : World, W = wc := ⟨_, rfl⟩
        subst hw9
        go_upto_if 175 with fail
        go_cut [] from 34 (fun W => ∃ (v9 : Value) (l9 : List RuV) (d9 : Int), Hid (FeS wc w7.heap.size b ⟨ca, cd, at_, lv, fw, false⟩ da v9 l9 d9 W))
        case first =>
          by_cases hn0 : 0 < F.length
          · have CK := Lib.hid fun W => lawpick26_c which F.length W hw (by omega) (by omega)
            have bk := pickI_bound which F.length (by omega)
            generalize pickI which F.length = kk at *
            obtain ⟨k, rfl⟩ := Int.eq_ofNat_of_zero_le bk.1
            have hkF : k < F.length := by omega
            have hkl : k < ys.length := by omega
            obtain ⟨g, cap, hv, _⟩ := D2.out.own.row.form (by rw [HLl.out]; omega)
            rw [HLl.out] at hv
            cases hv
            have t0 := cell_of_blk D2.out.fbox 0
            clear bk
            have HRow := Lib.hid D2.out.own.row
            rw [HLl.out] at HRow
            obtain ⟨cur, hgb, hlc, hcm, hcs, hct⟩ : ∃ cur, W9.heap[g]? = some (.cells cur 82 (0, 0)) ∧ ys.length ≤ p7 ∧ p7 ≤ 9223372036854775807 ∧ cur.size = p7 * 2 ∧ cur.toList.take (ys.length * 2) = l.flatMap ruC := by
              rcases HRow.out.2 with ⟨h0, _⟩ | ⟨g', cap', cur, hv, _, hg', r1, r2, r3, r4⟩
              · cases h0
              · cases hv; exact ⟨cur, hg', r1, r2, r3, r4⟩
            have hkc : k ≤ p7 := by omega
            have hk1 : k + 1 ≤ ys.length := hkl
            have hki : (0 : Int) ≤ (k : Int) + 1 := by omega
            have hki2 : (k : Int) + 1 ≤ (ys.length : Int) := by omega
            obtain ⟨off, hif, hoff⟩ : ∃ off, (if p7 = k + 1 then (some ⟨g, 0, none⟩ : Option Addr) else some ⟨g, (k + 1) * 2, none⟩) = some ⟨g, off, none⟩ ∧ (off = (k + 1) * 2 ∨ ys.length - (k + 1) = 0) := by
              split
              · exact ⟨0, rfl, .inr (by omega)⟩
              · exact ⟨_, rfl, .inl rfl⟩
            have HT := Lib.hid (srcAt_part HRow.out (k + 1) (ys.length - (k + 1)) (p7 - (k + 1)) off (by omega) hoff)
            have HGB := Lib.hid hgb; have HCS := Lib.hid hcs; have HCT := Lib.hid hct
            have HEL : Hid ((l.eraseIdx k).length = k + (ys.length - (k + 1))) := Lib.hid (by have := HLl.out; rw [List.length_eraseIdx, if_pos (by omega)]; omega)
            have hltk : ((l.take k).flatMap ruC) = cur.toList.take (k * 2) := by
              have h1 : (l.take k).flatMap ruC = (l.flatMap ruC).take (k * 2) := (flat_takeR l k).symm
              rw [h1, ← hct, List.take_take, Nat.min_eq_left (by omega)]
            have HTK := Lib.hid hltk
            clear hoff hgb hcs hct hltk
            go_wp2_with fail
            refine (CK.out _).mono ?_
            rintro e w10 ⟨rfl, rfl⟩
            go_wp2_with fail
            have hw1 : IntKind.i64.wrap (↑k + 1) = ↑k + 1 := IntWalk.i64_in _ (by omega)
            have hw2 : ((k : Int) + 1).toNat = k + 1 := by omega
            have S0 : W9.drew.cell? ⟨w7.heap.size, 0, none⟩ = some (.slice (some ⟨g, 0, none⟩) ys.length p7) := t0
            refine reg_fin (fun W => W.cell? ⟨w7.heap.size, 0, none⟩ = some (.slice (some ⟨g, 0, none⟩) ys.length p7)) 12 [0, 1, 2, 3, 4, 5, 6, 7, 8, 9, 10, 11, 12] (by kernel_rfl) (by kernel_rfl) (by kernel_rfl) rfl ?_
            iterate 10 (refine fin_take (v := ?_) rfl rfl rfl rfl S0 (fun w hS => ?_) ?_; rotate_left; (focus (go_simp; rfl)); simp only [List.setIfInBounds_toArray, List.set_cons_succ, List.set_cons_zero])
            clear hw1 hw2 hif hki hki2 t0
            have D3 := Lib.hid (D2.out.same (Fr.drew [] W9))
            have HRD := Lib.hid (row_fr HRow.out (Fr.drew [] W9) (by simp))
            have HTD := Lib.hid (HT.out.same (Fr.drew [] W9))
            have hgN : wc.heap.size ≤ g ∧ g ≠ w7.heap.size := ⟨D2.out.own.newR g rfl, fun he => by subst he; exact row_box D2.out.own.row D2.out.fbox (by decide) rfl⟩
            have HGD : Hid (W9.drew.heap[g]? = some (.cells cur 82 (0, 0))) := Lib.hid HGB.out
            generalize W9.drew = WD at *
            by_cases hlast : k + 1 = ys.length
            · have hm0 : ys.length - (k + 1) = 0 := by omega
              refine fin_do (o := ⟨some 189, _, _, _, _, _⟩) rfl rfl rfl (fun K hK => ?_)
              refine wp_append_room (.tmp 183) (.tmp 188) 63 82 _ 2 32 rfl Tryz.underlying63 infoRu g k k cur rfl HGD.out ⟨g, off, none⟩ (ys.length - (k + 1)) (p7 - (k + 1)) [] rfl (by simp) (by simp [hm0]) (by simp) (by omega) (by simp only [List.length_nil, HCS.out]; omega) ?_
              intro ds hds htk
              have fR : Fr [g] WD (WD.setRow g ds) := Fr.setRow _ _ (by simp)
              have hgr : (WD.setRow g ds).heap[g]? = some (.cells ds 82 (0, 0)) := setRow_heap _ _ _ _ _ _ HGD.out
              have hSl : Sl (WD.setRow g ds) (.slice (some ⟨g, 0, none⟩) k k) (l.eraseIdx k).length ((l.eraseIdx k).flatMap ruC) := by
                rw [HEL.out, erase_flatR, HTK.out, List.drop_of_length_le (by have := HLl.out; omega), hm0, Nat.add_zero]
                rw [hm0, Nat.add_zero, List.append_nil] at htk
                simp only [List.flatMap_nil, List.append_nil]
                rw [← htk]
                refine ⟨_, k, rfl, by omega, by omega, fun _ => ⟨g, 0, rfl, fun j u hu => ?_⟩⟩
                rw [Nat.zero_add]
                have hj : j < k * 2 := by have := (List.getElem?_eq_some_iff.1 hu).1; simp at this; omega
                rw [List.getElem?_take_of_lt hj, Array.getElem?_toList] at hu
                exact (cell_of_blk hgr j).trans hu
              obtain ⟨hbx, hFE⟩ := D3.out.drop HFl.out hkF fR (fun q hq => by
                rw [List.mem_singleton] at hq; subst hq
                exact ⟨hgN.1, hgN.2, fun y hy he => row_apart (D3.out.own.cds y hy) HRD.out (by decide) he rfl⟩) hwc7 hSl (by simp [Value.ownBlock]; exact hgN.2)
              have SZ : (WD.setRow g ds).cell? ⟨w7.heap.size, 0, none⟩ = some (.slice (some ⟨g, 0, none⟩) ys.length p7) := cell_of_blk hbx 0
              refine hK _ _ SZ ?_
              clear hK K
              try simp only [Act.put, List.setIfInBounds_toArray, List.set_cons_succ, List.set_cons_zero]
              (refine fin_take (v := ?_) rfl rfl rfl rfl SZ (fun w hS => ?_) ?_; rotate_left; (focus (go_simp; rfl)); try simp only [List.setIfInBounds_toArray, List.set_cons_succ, List.set_cons_zero])
              have u1 := cell_of_blk hbx 0
              have u2 := free_of_blk hbx 0
              have HFE := Lib.hid hFE
              clear hbx hFE SZ fR hgr hSl htk hds
              refine fin_last (o := ⟨none, _, _, _, _, _⟩) rfl rfl rfl (fun K hK => ?_)
              go_simp
              try go_upon
              try go_simp
              refine hK _ _ ?_
              clear hK K
              clear u1 u2
              go_wp2_with fail
              go_meet
              case rel => exact ⟨_, l.eraseIdx k, d2, HFE⟩
            · refine fin_do (o := ⟨some 189, _, _, _, _, _⟩) rfl rfl rfl (fun K hK => ?_)
              have hsr := HTD.out.form
              rcases hsr with ⟨hsr, _⟩ | ⟨ad, c9, hsr, hcell⟩
              · cases hsr
              cases hsr
              have hdrop : ((l.flatMap ruC).drop ((k + 1) * 2)).take ((ys.length - (k + 1)) * 2) = (l.drop (k + 1)).flatMap ruC := flat_dropR l k ys.length HLl.out
              rw [hdrop] at hcell
              refine wp_append_grows (.tmp 183) (.tmp 188) 63 82 _ 2 32 rfl Tryz.underlying63 infoRu rfl (by decide) ⟨g, 0, none⟩ k k ((l.take k).flatMap ruC) rfl (by rw [flat_len ruC_len]; have := HLl.out; simp; omega) (fun j u hu => by
                  rw [addr_add, Nat.zero_add]
                  rw [HTK.out] at hu
                  have hj : j < k * 2 := by have := (List.getElem?_eq_some_iff.1 hu).1; simp at this; omega
                  rw [List.getElem?_take_of_lt hj, Array.getElem?_toList] at hu
                  exact (cell_of_blk (w := WD) HGD.out j).trans hu) ⟨g, off, none⟩ (ys.length - (k + 1)) (p7 - (k + 1)) _ rfl (by rw [flat_len ruC_len]; have := HLl.out; simp; omega) hcell (by omega) (by omega) (by omega) ?_
              intro v' W10 r10 f10
              have hSl : Sl W10 v' (l.eraseIdx k).length ((l.eraseIdx k).flatMap ruC) := by
                rw [HEL.out, erase_flatR]
                exact sl_of_row (row_base r10)
              obtain ⟨av', pv', hav⟩ := hSl.val
              obtain ⟨hbx, hFE⟩ := D3.out.drop HFl.out hkF f10 (fun q hq => by simp at hq) hwc7 hSl (fun he => by
                have := row_box (row_base r10) (f10.keep D3.out.fbox (by simp)) (by decide)
                exact this he)
              subst hav
              have SZ : W10.cell? ⟨w7.heap.size, 0, none⟩ = some (.slice (some ⟨g, 0, none⟩) ys.length p7) := cell_of_blk hbx 0
              refine hK _ _ SZ ?_
              clear hK K
              try simp only [Act.put, List.setIfInBounds_toArray, List.set_cons_succ, List.set_cons_zero]
              (refine fin_take (v := ?_) rfl rfl rfl rfl SZ (fun w hS => ?_) ?_; rotate_left; (focus (go_simp; rfl)); try simp only [List.setIfInBounds_toArray, List.set_cons_succ, List.set_cons_zero])
              have u1 := cell_of_blk hbx 0
              have u2 := free_of_blk hbx 0
              have HFE := Lib.hid hFE
              clear hbx hFE SZ hSl hcell hdrop r10 f10
              refine fin_last (o := ⟨none, _, _, _, _, _⟩) rfl rfl rfl (fun K hK => ?_)
              go_simp
              try go_upon
              try go_simp
              refine hK _ _ ?_
              clear hK K
              clear u1 u2
              go_wp2_with fail
              go_meet
              case rel => exact ⟨_, l.eraseIdx k, d2, HFE⟩
          · go_wp2_with fail
            go_meet
            case rel => exact ⟨_, l, d2, Lib.hid (D2.out.fe HFl.out)⟩
        case rest =>
          obtain ⟨v9, l9, d9, HE⟩ := hcut
          obtain ⟨a9, p9, rfl⟩ := HE.out.fl.sl.val
          have L9 := Lib.hid (L6.out.same HE.out.fr)
          have CD9 := Lib.hid (fe_dec HE.out L9.out.rbAt L9.out.made L9.out.cok L9.out.cb)
          have t0 := cell_of_blk HE.out.fbox 0; have t1 := cell_of_blk HE.out.fbox 1
          obtain ⟨_, ⟨r0, r1, r2⟩, q0, q1, q2, q3, q4, q5⟩ := L9.out.cells
          simp only at q0 q1 q2 q3 q4 q5
          go_wp2_with fail
          clear t0 t1 r0 r1 r2 q0 q1 q2 q3 q4 q5
          refine CD9.out.mono ?_
          rintro e w11 ⟨f11, er, aF9, nF9, pF9, aP9, nP9, pP9, rfl⟩
          have FX := f11.trans (Fr.alloc [] w11 (.cells #[.int .i64 da, .int .i64 er, .slice aF9 nF9 pF9, .slice aP9 nP9 pP9] 62))
          have d0 := cell_of_blk (DD.out _ (HE.out.fr.trans FX)).1 0
          have FB := Lib.hid (L9.out.fr.trans FX)
          clear f11 FX CD9 L9
          go_wp2_with fail
          go_ret
          exact ⟨rfl, FB.out.below⟩

set_option maxRecDepth 100000 in
theorem walk_FilterFirst {H : Type} {enc : TypeId × Value → H} {base : Nat} (W : World) {v0 v1 v2 v3 v4 v5 v6 : Value} {d0 d1 d2 d3 d4 d5 d6 : DataW H} {p0 p1 p2 p3 p4 p5 p6 : List MemPlace} (k0 : Value.okWide Tryz.prog W .any base 58 v0) (h0 : DataW.Trod enc Tryz.prog W 0 (fun _ => true) true 58 v0 d0 p0) (k1 : Value.okWide Tryz.prog W .any base 48 v1) (h1 : DataW.Trod enc Tryz.prog W 0 (fun _ => true) true 48 v1 d1 p1) (k2 : Value.okWide Tryz.prog W .any base 3 v2) (h2 : DataW.Trod enc Tryz.prog W 0 (fun _ => true) true 3 v2 d2 p2) (k3 : Value.okWide Tryz.prog W .any base 25 v3) (h3 : DataW.Trod enc Tryz.prog W 0 (fun _ => true) true 25 v3 d3 p3) (k4 : Value.okWide Tryz.prog W .any base 59 v4) (h4 : DataW.Trod enc Tryz.prog W 0 (fun _ => true) true 59 v4 d4 p4) (k5 : Value.okWide Tryz.prog W .any base 3 v5) (h5 : DataW.Trod enc Tryz.prog W 0 (fun _ => true) true 3 v5 d5 p5) (k6 : Value.okWide Tryz.prog W .any base 3 v6) (h6 : DataW.Trod enc Tryz.prog W 0 (fun _ => true) true 3 v6 d6 p6) :
    Calls Tryz.prog 5 #[v0, v1, v2, v3, v4, v5, v6] W fun e W' => e = .returned (.bool true) ∧ Below W.heap.size W W' := by
  obtain ⟨nx, xs, a0⟩ := open_x3s k0 h0
  obtain ⟨ms, a1, i1⟩ := open_ints k1 h1
  obtain ⟨fb, rfl, j1, j2⟩ := open_i64 Tryz.underlying3 k2 h2
  obtain ⟨_, _, _, n1, n2, n3, is1, is2, is3, rfl, b1, b2, b3⟩ := open_numbers k3 h3
  obtain ⟨qa, qb, qc, qd, qe, rfl, g1, g2, g3, g4, g5⟩ := open_x5 k4 h4
  obtain ⟨x, rfl, u1, u2⟩ := open_i64 Tryz.underlying3 k5 h5
  obtain ⟨y, rfl, s1, s2⟩ := open_i64 Tryz.underlying3 k6 h6
  exact first_c _ _ _ _ _ nx n1 n2 n3 xs ms is1 is2 is3 fb qa qb qc qd qe x y W a0 a1 i1 ⟨j1, j2⟩ b1 b2 b3 g1 g2 g3 g4 g5 ⟨u1, u2⟩ ⟨s1, s2⟩

end Go.Proofs.YtkopnooajikpmaaGreat
