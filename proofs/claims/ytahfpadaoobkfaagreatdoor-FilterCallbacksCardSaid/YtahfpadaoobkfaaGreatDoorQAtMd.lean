/-
  The reference's attestations: Made.
-/
import Derived.Test.YtahfpadaoobkfaaGreatDoorQAtPa
import Derived.Test.YtahfpadaoobkfaaGreatDoorQS20
import Derived.Test.YtahfpadaoobkfaaGreatDoorQS24
import Derived.Deep.CutBlock
import Derived.Deep.DeepCutAuto
namespace Go.Proofs.YtahfpadaoobkfaaGreatDoor
open Go.RowKit Go.Lib

set_option maxRecDepth 100000 in
set_option maxHeartbeats 8000000 in
theorem made25_c (q0 q1 q2 q3 lev : Int) (vc : Value) (F : List Int) (k0 k1 k2 k3 k4 k5 k6 k7 : Int) (w : World) (hq0 : I64 q0) (hq1 : I64 q1) (hq2 : I64 q2) (hq3 : I64 q3) (hlv : I64 lev) (hF : IntsAt w vc F) (hFi : ∀ z, z ∈ F → I64 z) (hks : ∀ k, k ∈ [k0, k1, k2, k3, k4, k5, k6, k7] → I64 k) :
    Calls Tryz.prog 8 #[.agg #[.int .i64 q0, .int .i64 q1, .int .i64 q2, .int .i64 q3, .int .i64 lev, vc, .int .i64 k0, .int .i64 k1, .int .i64 k2, .int .i64 k3, .int .i64 k4, .int .i64 k5, .int .i64 k6, .int .i64 k7]] w fun e w' => ∃ v l, e = .returned (atV (dialM q0 q1 q2 q3) v) ∧ fmB ⟨dialM q0 q1 q2 q3, l⟩ = true ∧ HdY w w' v l := by
  obtain ⟨fa, fc, rfl⟩ := hF.val
  have hFl := hF.len
  have HFA := Lib.hid hF
  have HFI := Lib.hid hFi
  have CD := Lib.hid fun W => dial25_c q0 q1 q2 q3 W hq0 hq1 hq2 hq3
  have CL := Lib.hid fun W => pick25_c lev 4 W hlv (by omega) (by omega)
  have hpl := pickI_bound lev 4 (by omega)
  have HDB := Lib.hid (dialM_b q0 q1 q2 q3)
  have CKN := Lib.hid fun W => knows25_c q0 q1 q2 q3 lev (.slice fa F.length fc) k0 k1 k2 k3 k4 k5 k6 k7 W hks
  have HKS := Lib.hid (knowsM_at [k0, k1, k2, k3, k4, k5, k6, k7])
  have hkl : (knowsM [k0, k1, k2, k3, k4, k5, k6, k7]).length = 8 := rfl
  generalize knowsM [k0, k1, k2, k3, k4, k5, k6, k7] = KN at *
  generalize dialM q0 q1 q2 q3 = D at *
  generalize pickI lev 4 = pl at *
  obtain ⟨d0, d1, d2, d3⟩ := D
  have A2 := Lib.hid (alloc2' w (.cells #[.int .i64 q0, .int .i64 q1, .int .i64 q2, .int .i64 q3, .int .i64 lev, .slice fa F.length fc, .int .i64 k0, .int .i64 k1, .int .i64 k2, .int .i64 k3, .int .i64 k4, .int .i64 k5, .int .i64 k6, .int .i64 k7] 26) (.cells #[.int .i64 0, .int .i64 0, .int .i64 0, .int .i64 0, .slice none 0 0] 44))
  have F0 := Lib.hid ((Fr.alloc [] w (.cells #[.int .i64 q0, .int .i64 q1, .int .i64 q2, .int .i64 q3, .int .i64 lev, .slice fa F.length fc, .int .i64 k0, .int .i64 k1, .int .i64 k2, .int .i64 k3, .int .i64 k4, .int .i64 k5, .int .i64 k6, .int .i64 k7] 26)).trans (Fr.alloc [] _ (.cells #[.int .i64 0, .int .i64 0, .int .i64 0, .int .i64 0, .slice none 0 0] 44)))
  have HSZ : Hid (((w.alloc (.cells #[.int .i64 q0, .int .i64 q1, .int .i64 q2, .int .i64 q3, .int .i64 lev, .slice fa F.length fc, .int .i64 k0, .int .i64 k1, .int .i64 k2, .int .i64 k3, .int .i64 k4, .int .i64 k5, .int .i64 k6, .int .i64 k7] 26)).alloc (.cells #[.int .i64 0, .int .i64 0, .int .i64 0, .int .i64 0, .slice none 0 0] 44)).heap.size = w.heap.size + 2) := Lib.hid (by simp)
  have CA := Lib.hid fun W => all25_c W
  have HKL := Lib.hid hkl
  clear hF hFi hq0 hq1 hq2 hq3 hlv hks hkl
  go_enter Tryz.func8, Tryz.ntmps8
  go_wp2_with fail
  refine (CA.out _).mono ?_
  rintro e w1 ⟨kv, rfl, hK⟩
  obtain ⟨ka, kc, rfl⟩ := hK.val
  rw [allK_len] at *
  have F1 := hK.fr
  have HA1 := Lib.hid (And.intro (F1.keep A2.out.1 (by simp)) (F1.keep A2.out.2 (by simp)))
  have HS1 : Hid (w.heap.size + 2 ≤ w1.heap.size) := Lib.hid (by have := HSZ.out; have := F1.size; omega)
  have HK := Lib.hid (And.intro (sl_of_row hK.row) (F0.out.trans F1))
  have c0 := cell_of_blk HA1.out.1 0; have c1 := cell_of_blk HA1.out.1 1; have c2 := cell_of_blk HA1.out.1 2; have c3 := cell_of_blk HA1.out.1 3; have c4 := cell_of_blk HA1.out.1 4; have c5 := cell_of_blk HA1.out.1 5; have c6 := cell_of_blk HA1.out.1 6; have c7 := cell_of_blk HA1.out.1 7; have c8 := cell_of_blk HA1.out.1 8; have c9 := cell_of_blk HA1.out.1 9; have c10 := cell_of_blk HA1.out.1 10; have c11 := cell_of_blk HA1.out.1 11; have c12 := cell_of_blk HA1.out.1 12; have c13 := cell_of_blk HA1.out.1 13
  clear hK F1 CA A2 F0 HSZ
  go_wp2_with fail
  refine (CKN.out _).mono ?_
  rintro e w2 ⟨nv, rfl, hN⟩
  obtain ⟨na, nc, rfl⟩ := hN.val
  rw [HKL.out]
  have F1 := hN.fr
  have HA2 := Lib.hid (And.intro (F1.keep HA1.out.1 (by simp)) (F1.keep HA1.out.2 (by simp)))
  have HS2 : Hid (w.heap.size + 2 ≤ w2.heap.size) := Lib.hid (by have := HS1.out; have := F1.size; omega)
  have HK2 := Lib.hid (And.intro (HK.out.1.same F1) (HK.out.2.trans F1))
  have HN2 : Hid (Sl w2 (.slice na 8 nc) 8 (KN.map (Value.int .i64))) := Lib.hid (by have h := sl_of_row hN.row; rw [HKL.out] at h; exact h)
  clear hN F1 CKN HA1 HS1 HK c0 c1 c2 c3 c4 c5 c6 c7 c8 c9 c10 c11 c12 c13
  have b0 := cell_of_blk HA2.out.1 0; have b1 := cell_of_blk HA2.out.1 1; have b2 := cell_of_blk HA2.out.1 2; have b3 := cell_of_blk HA2.out.1 3; have b4 := cell_of_blk HA2.out.1 4; have b5 := cell_of_blk HA2.out.1 5
  go_upto_if 15 with fail
  go_cut [5] from 15 to 20 (fun s5 W => ∃ c : Nat, s5 = .int .i64 c ∧ c ≤ 7 ∧ Hid (W = w2))
  case first =>
    by_cases hlt : 0 < F.length
    · have hq : decide (0 < F.length) = true := decide_eq_true hlt
      obtain ⟨fb, fo, rfl, hfc⟩ := HFA.out.at_ hlt
      have f0 := HK2.out.2.cel (hfc 0 (.int .i64 F[0]) (by simp [intC, hlt])) (by simp)
      have CP := Lib.hid fun W => pick25_c F[0] 8 W (HFI.out _ (List.getElem_mem hlt)) (by omega) (by omega)
      have hp := pickI_bound F[0] 8 (by omega)
      simp only [Nat.add_zero] at f0
      generalize F[0] = x0 at *
      generalize pickI x0 8 = p0 at *
      obtain ⟨c, rfl⟩ := Int.eq_ofNat_of_zero_le hp.1
      have hc7 : c ≤ 7 := by omega
      clear hfc hp
      rw [hq]
      go_wp2_with fail
      refine (CP.out _).mono ?_
      rintro e w3 ⟨rfl, rfl⟩
      go_wp2_with fail
      go_meet
      case rel => exact ⟨c, rfl, hc7, Lib.hid rfl⟩
    · have hq : decide (0 < F.length) = false := decide_eq_false hlt
      clear hlt
      rw [hq]
      go_wp2_with fail
      go_meet
      case rel => exact ⟨0, rfl, by omega, Lib.hid rfl⟩
  case rest =>
    obtain ⟨c, rfl, hc, HW⟩ := hcut
    have hwe := HW.out.symm
    subst hwe
    rename_i K0 hK0
    refine hK0 _ _ ?_
    clear hK0 K0 HW
    obtain ⟨kb, ko, rfl, hkc⟩ := HK2.out.1.at_ (by omega)
    have hc8 : c < allK.length := by rw [allK_len]; omega
    have kc0 := hkc c (.string allK[c]) (by simp [hc8])
    have hky := allK_size (List.getElem_mem hc8)
    have HKC := Lib.hid hkc
    have hcI : (c : Int) < 8 := by omega
    generalize allK[c] = ky at *
    have CB := Lib.hid fun W => begin25_c ky ⟨d0, d1, d2, d3⟩ (c : Int) pl W hky HDB.out (by omega) (by omega)
    clear hkc hky hc8
    refine wp_seq_k (fun K hK => ?_)
    go_cut [6, 7] from 21 to 35 (fun s6 s7 W => ∃ (B : Nat) (u : Value) (x : Hd), s6 = .pointer (some ⟨B, 0, none⟩) ∧ s7 = .int .i64 0 ∧ Hid (x.car = c) ∧ Hid (fmB ⟨⟨d0, d1, d2, d3⟩, [x]⟩ = true) ∧ Hid (HdY w2 W u [x]) ∧ Hid (W.heap[B]? = some (.cells #[.int .i64 d0, .int .i64 d1, .int .i64 d2, .int .i64 d3, u] 44 (0, 0))) ∧ Hid (w2.heap.size ≤ B))
    case first =>
      refine reg_tree (Fr [] w2) 17 (.take 0 (.take 1 (.take 2 (.take 3 (.take 4 (.take 5 (.take 7 (.take 8 (.take 9 (.two 6 15 (.two 10 15 (.two 11 15 (.take 12 (.take 13 (.take 14 (.one 15 (.one 16 (.one 17 .nil)))))) (.one 11 (.take 12 (.take 13 (.take 14 (.one 16 (.one 17 .nil))))))) (.one 10 (.one 11 (.take 12 (.take 13 (.take 14 (.one 16 (.one 17 .nil)))))))) (.one 6 (.one 10 (.one 11 (.take 12 (.take 13 (.take 14 (.one 16 (.one 17 .nil)))))))))))))))))) (by kernel_rfl) (by kernel_rfl) (by kernel_rfl) rfl ?_
      have FC : Fr [] w2 w2.drew := Fr.drew _ _
      generalize w2.drew = WC at FC ⊢
      iterate 9 (refine tree_take (v := ?_) rfl rfl rfl FC (fun w hS => ?_) ?_; rotate_left; (focus (have e0 := hS.cel b0 (by simp); have e1 := hS.cel b1 (by simp); have e2 := hS.cel b2 (by simp); have e3 := hS.cel b3 (by simp); have e4 := hS.cel b4 (by simp); have e5 := hS.cel b5 (by simp); have e6 := hS.cel kc0 (by simp); clear hS; go_simp; (try rw [if_pos hcI]); rfl)); simp only [List.setIfInBounds_toArray, List.set_cons_succ, List.set_cons_zero])
      refine ⟨?_, ?_⟩
      · refine tree_op rfl rfl (fun K hK => ?_)
        go_simp
        refine (CD.out _).mono ?_
        rintro e v1 ⟨rfl, fx⟩
        have FC := FC.trans fx
        clear fx
        refine hK _ _ FC ?_
        clear hK K
        try simp only [Act.put, List.setIfInBounds_toArray, List.set_cons_succ, List.set_cons_zero]
        refine ⟨?_, ?_⟩
        · refine tree_op rfl rfl (fun K hK => ?_)
          go_simp
          refine (CL.out _).mono ?_
          rintro e v2 ⟨rfl, rfl⟩
          refine hK _ _ FC ?_
          clear hK K
          try simp only [Act.put, List.setIfInBounds_toArray, List.set_cons_succ, List.set_cons_zero]
          refine ⟨?_, ?_⟩
          · refine tree_op rfl rfl (fun K hK => ?_)
            go_simp
            refine (CB.out _).mono ?_
            rintro e v3 ⟨vb, x, rfl, hx1, hx2, hY⟩
            have fx := hY.fr
            have HX1 := Lib.hid hx1; have HX2 := Lib.hid hx2
            have HYY := Lib.hid (And.intro hY FC.size)
            obtain ⟨va, vp, rfl⟩ := hY.at_.val
            clear hY hx1 hx2
            simp only [List.length_cons, List.length_nil, Nat.zero_add] at HYY ⊢
            have FC := FC.trans fx
            clear fx
            refine hK _ _ FC ?_
            clear hK K
            try simp only [Act.put, List.setIfInBounds_toArray, List.set_cons_succ, List.set_cons_zero]
            iterate 3 (refine tree_take (v := ?_) rfl rfl rfl FC (fun w hS => ?_) ?_; rotate_left; (focus (clear hS; go_simp; (try rw [if_pos hcI]); rfl)); simp only [List.setIfInBounds_toArray, List.set_cons_succ, List.set_cons_zero])
            refine tree_one rfl rfl (fun K hK => ?_)
            go_simp
            have fx := Fr.alloc [] v3 (.cells #[.int .i64 0, .int .i64 0, .int .i64 0, .int .i64 0, .slice none 0 0] 44)
            have HB := Lib.hid (And.intro (heap_alloc_new v3 (.cells #[.int .i64 0, .int .i64 0, .int .i64 0, .int .i64 0, .slice none 0 0] 44)) FC.size)
            generalize hBB : v3.heap.size = B at *
            generalize v3.alloc (.cells #[.int .i64 0, .int .i64 0, .int .i64 0, .int .i64 0, .slice none 0 0] 44) = v4 at *
            clear hBB
            have FC := FC.trans fx
            have HYY := Lib.hid (And.intro (HYY.out.1.same fx) HYY.out.2)
            clear fx
            refine hK _ _ FC ?_
            clear hK K
            try simp only [Act.put, List.setIfInBounds_toArray, List.set_cons_succ, List.set_cons_zero]
            have z0 := cell_of_blk HB.out.1 0; have z1 := cell_of_blk HB.out.1 1; have z2 := cell_of_blk HB.out.1 2; have z3 := cell_of_blk HB.out.1 3; have z4 := cell_of_blk HB.out.1 4
            have y0 := free_of_blk HB.out.1 0; have y1 := free_of_blk HB.out.1 1; have y2 := free_of_blk HB.out.1 2; have y3 := free_of_blk HB.out.1 3; have y4 := free_of_blk HB.out.1 4
            refine tree_one (o := ⟨none, _, _, _, _, _⟩) rfl rfl (fun K hK => ?_)
            go_simp
            try go_upon
            try go_simp
            obtain ⟨KF, FF⟩ := set5 HB.out.1 (.int .i64 d0) (.int .i64 d1) (.int .i64 d2) (.int .i64 d3) (.slice va 1 vp)
            have hBn := HB.out.2
            have HE : Hid (HdY w2 _ (.slice va 1 vp) [x]) := Lib.hid ⟨row_fr HYY.out.1.row FF (fun b hb hm => by rw [List.mem_singleton] at hm; subst hm; exact row_box HYY.out.1.row HB.out.1 (by decide) hb), fun b hb => by have := HYY.out.1.young b hb; have := HYY.out.2; omega, FC.step FF (fun i hi => .inr (by simp at hi; omega))⟩
            refine hK _ _ HE.out.fr ?_
            clear hK K z0 z1 z2 z3 z4 y0 y1 y2 y3 y4
            try simp only [Act.put, List.setIfInBounds_toArray, List.set_cons_succ, List.set_cons_zero]
            have HKF := Lib.hid KF
            clear KF FF FC
            generalize World.setCell _ ⟨B, 4, none⟩ (.slice va 1 vp) = wf at *
            refine tree_last rfl rfl (fun K hK => ?_)
            go_simp
            refine hK _ _ ?_
            clear hK K
            refine noPanic_nmZ ?_
            go_wp2_with fail
            go_meet
            case rel => exact ⟨B, .slice va 1 vp, x, rfl, rfl, HX1, HX2, HE, HKF, Lib.hid hBn⟩
          · refine tree_op rfl rfl (fun K hK => ?_)
            go_simp
            have fx := Fr.alloc [] v1 (.cells #[.int .i64 0, .int .i64 0, .int .i64 0, .int .i64 0, .slice none 0 0] 44)
            have HB := Lib.hid (And.intro (heap_alloc_new v1 (.cells #[.int .i64 0, .int .i64 0, .int .i64 0, .int .i64 0, .slice none 0 0] 44)) FC.size)
            generalize hBB : v1.heap.size = B at *
            generalize v1.alloc (.cells #[.int .i64 0, .int .i64 0, .int .i64 0, .int .i64 0, .slice none 0 0] 44) = v5 at *
            clear hBB
            have FC := FC.trans fx
            clear fx
            refine hK _ _ FC ?_
            clear hK K
            try simp only [Act.put, List.setIfInBounds_toArray, List.set_cons_succ, List.set_cons_zero]
            refine tree_one rfl rfl (fun K hK => ?_)
            go_simp
            refine (CB.out _).mono ?_
            rintro e v6 ⟨vb, x, rfl, hx1, hx2, hY⟩
            have fx := hY.fr
            have HX1 := Lib.hid hx1; have HX2 := Lib.hid hx2
            have HYY := Lib.hid (And.intro hY FC.size)
            obtain ⟨va, vp, rfl⟩ := hY.at_.val
            clear hY hx1 hx2
            simp only [List.length_cons, List.length_nil, Nat.zero_add] at HYY ⊢
            have FC := FC.trans fx
            have HB := Lib.hid (And.intro (fx.keep HB.out.1 (by simp)) HB.out.2)
            clear fx
            refine hK _ _ FC ?_
            clear hK K
            try simp only [Act.put, List.setIfInBounds_toArray, List.set_cons_succ, List.set_cons_zero]
            iterate 3 (refine tree_take (v := ?_) rfl rfl rfl FC (fun w hS => ?_) ?_; rotate_left; (focus (clear hS; go_simp; (try rw [if_pos hcI]); rfl)); simp only [List.setIfInBounds_toArray, List.set_cons_succ, List.set_cons_zero])
            have z0 := cell_of_blk HB.out.1 0; have z1 := cell_of_blk HB.out.1 1; have z2 := cell_of_blk HB.out.1 2; have z3 := cell_of_blk HB.out.1 3; have z4 := cell_of_blk HB.out.1 4
            have y0 := free_of_blk HB.out.1 0; have y1 := free_of_blk HB.out.1 1; have y2 := free_of_blk HB.out.1 2; have y3 := free_of_blk HB.out.1 3; have y4 := free_of_blk HB.out.1 4
            refine tree_one (o := ⟨none, _, _, _, _, _⟩) rfl rfl (fun K hK => ?_)
            go_simp
            try go_upon
            try go_simp
            obtain ⟨KF, FF⟩ := set5 HB.out.1 (.int .i64 d0) (.int .i64 d1) (.int .i64 d2) (.int .i64 d3) (.slice va 1 vp)
            have hBn := HB.out.2
            have HE : Hid (HdY w2 _ (.slice va 1 vp) [x]) := Lib.hid ⟨row_fr HYY.out.1.row FF (fun b hb hm => by rw [List.mem_singleton] at hm; subst hm; exact row_box HYY.out.1.row HB.out.1 (by decide) hb), fun b hb => by have := HYY.out.1.young b hb; have := HYY.out.2; omega, FC.step FF (fun i hi => .inr (by simp at hi; omega))⟩
            refine hK _ _ HE.out.fr ?_
            clear hK K z0 z1 z2 z3 z4 y0 y1 y2 y3 y4
            try simp only [Act.put, List.setIfInBounds_toArray, List.set_cons_succ, List.set_cons_zero]
            have HKF := Lib.hid KF
            clear KF FF FC
            generalize World.setCell _ ⟨B, 4, none⟩ (.slice va 1 vp) = wf at *
            refine tree_last rfl rfl (fun K hK => ?_)
            go_simp
            refine hK _ _ ?_
            clear hK K
            refine noPanic_nmZ ?_
            go_wp2_with fail
            go_meet
            case rel => exact ⟨B, .slice va 1 vp, x, rfl, rfl, HX1, HX2, HE, HKF, Lib.hid hBn⟩
        · refine tree_op rfl rfl (fun K hK => ?_)
          go_simp
          have fx := Fr.alloc [] v1 (.cells #[.int .i64 0, .int .i64 0, .int .i64 0, .int .i64 0, .slice none 0 0] 44)
          have HB := Lib.hid (And.intro (heap_alloc_new v1 (.cells #[.int .i64 0, .int .i64 0, .int .i64 0, .int .i64 0, .slice none 0 0] 44)) FC.size)
          generalize hBB : v1.heap.size = B at *
          generalize v1.alloc (.cells #[.int .i64 0, .int .i64 0, .int .i64 0, .int .i64 0, .slice none 0 0] 44) = v7 at *
          clear hBB
          have FC := FC.trans fx
          clear fx
          refine hK _ _ FC ?_
          clear hK K
          try simp only [Act.put, List.setIfInBounds_toArray, List.set_cons_succ, List.set_cons_zero]
          refine tree_one rfl rfl (fun K hK => ?_)
          go_simp
          refine (CL.out _).mono ?_
          rintro e v8 ⟨rfl, rfl⟩
          refine hK _ _ FC ?_
          clear hK K
          try simp only [Act.put, List.setIfInBounds_toArray, List.set_cons_succ, List.set_cons_zero]
          refine tree_one rfl rfl (fun K hK => ?_)
          go_simp
          refine (CB.out _).mono ?_
          rintro e v9 ⟨vb, x, rfl, hx1, hx2, hY⟩
          have fx := hY.fr
          have HX1 := Lib.hid hx1; have HX2 := Lib.hid hx2
          have HYY := Lib.hid (And.intro hY FC.size)
          obtain ⟨va, vp, rfl⟩ := hY.at_.val
          clear hY hx1 hx2
          simp only [List.length_cons, List.length_nil, Nat.zero_add] at HYY ⊢
          have FC := FC.trans fx
          have HB := Lib.hid (And.intro (fx.keep HB.out.1 (by simp)) HB.out.2)
          clear fx
          refine hK _ _ FC ?_
          clear hK K
          try simp only [Act.put, List.setIfInBounds_toArray, List.set_cons_succ, List.set_cons_zero]
          iterate 3 (refine tree_take (v := ?_) rfl rfl rfl FC (fun w hS => ?_) ?_; rotate_left; (focus (clear hS; go_simp; (try rw [if_pos hcI]); rfl)); simp only [List.setIfInBounds_toArray, List.set_cons_succ, List.set_cons_zero])
          have z0 := cell_of_blk HB.out.1 0; have z1 := cell_of_blk HB.out.1 1; have z2 := cell_of_blk HB.out.1 2; have z3 := cell_of_blk HB.out.1 3; have z4 := cell_of_blk HB.out.1 4
          have y0 := free_of_blk HB.out.1 0; have y1 := free_of_blk HB.out.1 1; have y2 := free_of_blk HB.out.1 2; have y3 := free_of_blk HB.out.1 3; have y4 := free_of_blk HB.out.1 4
          refine tree_one (o := ⟨none, _, _, _, _, _⟩) rfl rfl (fun K hK => ?_)
          go_simp
          try go_upon
          try go_simp
          obtain ⟨KF, FF⟩ := set5 HB.out.1 (.int .i64 d0) (.int .i64 d1) (.int .i64 d2) (.int .i64 d3) (.slice va 1 vp)
          have hBn := HB.out.2
          have HE : Hid (HdY w2 _ (.slice va 1 vp) [x]) := Lib.hid ⟨row_fr HYY.out.1.row FF (fun b hb hm => by rw [List.mem_singleton] at hm; subst hm; exact row_box HYY.out.1.row HB.out.1 (by decide) hb), fun b hb => by have := HYY.out.1.young b hb; have := HYY.out.2; omega, FC.step FF (fun i hi => .inr (by simp at hi; omega))⟩
          refine hK _ _ HE.out.fr ?_
          clear hK K z0 z1 z2 z3 z4 y0 y1 y2 y3 y4
          try simp only [Act.put, List.setIfInBounds_toArray, List.set_cons_succ, List.set_cons_zero]
          have HKF := Lib.hid KF
          clear KF FF FC
          generalize World.setCell _ ⟨B, 4, none⟩ (.slice va 1 vp) = wf at *
          refine tree_last rfl rfl (fun K hK => ?_)
          go_simp
          refine hK _ _ ?_
          clear hK K
          refine noPanic_nmZ ?_
          go_wp2_with fail
          go_meet
          case rel => exact ⟨B, .slice va 1 vp, x, rfl, rfl, HX1, HX2, HE, HKF, Lib.hid hBn⟩
      · refine tree_op rfl rfl (fun K hK => ?_)
        go_simp
        have fx := Fr.alloc [] WC (.cells #[.int .i64 0, .int .i64 0, .int .i64 0, .int .i64 0, .slice none 0 0] 44)
        have HB := Lib.hid (And.intro (heap_alloc_new WC (.cells #[.int .i64 0, .int .i64 0, .int .i64 0, .int .i64 0, .slice none 0 0] 44)) FC.size)
        generalize hBB : WC.heap.size = B at *
        generalize WC.alloc (.cells #[.int .i64 0, .int .i64 0, .int .i64 0, .int .i64 0, .slice none 0 0] 44) = v10 at *
        clear hBB
        have FC := FC.trans fx
        clear fx
        refine hK _ _ FC ?_
        clear hK K
        try simp only [Act.put, List.setIfInBounds_toArray, List.set_cons_succ, List.set_cons_zero]
        refine tree_one rfl rfl (fun K hK => ?_)
        go_simp
        refine (CD.out _).mono ?_
        rintro e v11 ⟨rfl, fx⟩
        have FC := FC.trans fx
        have HB := Lib.hid (And.intro (fx.keep HB.out.1 (by simp)) HB.out.2)
        clear fx
        refine hK _ _ FC ?_
        clear hK K
        try simp only [Act.put, List.setIfInBounds_toArray, List.set_cons_succ, List.set_cons_zero]
        refine tree_one rfl rfl (fun K hK => ?_)
        go_simp
        refine (CL.out _).mono ?_
        rintro e v12 ⟨rfl, rfl⟩
        refine hK _ _ FC ?_
        clear hK K
        try simp only [Act.put, List.setIfInBounds_toArray, List.set_cons_succ, List.set_cons_zero]
        refine tree_one rfl rfl (fun K hK => ?_)
        go_simp
        refine (CB.out _).mono ?_
        rintro e v13 ⟨vb, x, rfl, hx1, hx2, hY⟩
        have fx := hY.fr
        have HX1 := Lib.hid hx1; have HX2 := Lib.hid hx2
        have HYY := Lib.hid (And.intro hY FC.size)
        obtain ⟨va, vp, rfl⟩ := hY.at_.val
        clear hY hx1 hx2
        simp only [List.length_cons, List.length_nil, Nat.zero_add] at HYY ⊢
        have FC := FC.trans fx
        have HB := Lib.hid (And.intro (fx.keep HB.out.1 (by simp)) HB.out.2)
        clear fx
        refine hK _ _ FC ?_
        clear hK K
        try simp only [Act.put, List.setIfInBounds_toArray, List.set_cons_succ, List.set_cons_zero]
        iterate 3 (refine tree_take (v := ?_) rfl rfl rfl FC (fun w hS => ?_) ?_; rotate_left; (focus (clear hS; go_simp; (try rw [if_pos hcI]); rfl)); simp only [List.setIfInBounds_toArray, List.set_cons_succ, List.set_cons_zero])
        have z0 := cell_of_blk HB.out.1 0; have z1 := cell_of_blk HB.out.1 1; have z2 := cell_of_blk HB.out.1 2; have z3 := cell_of_blk HB.out.1 3; have z4 := cell_of_blk HB.out.1 4
        have y0 := free_of_blk HB.out.1 0; have y1 := free_of_blk HB.out.1 1; have y2 := free_of_blk HB.out.1 2; have y3 := free_of_blk HB.out.1 3; have y4 := free_of_blk HB.out.1 4
        refine tree_one (o := ⟨none, _, _, _, _, _⟩) rfl rfl (fun K hK => ?_)
        go_simp
        try go_upon
        try go_simp
        obtain ⟨KF, FF⟩ := set5 HB.out.1 (.int .i64 d0) (.int .i64 d1) (.int .i64 d2) (.int .i64 d3) (.slice va 1 vp)
        have hBn := HB.out.2
        have HE : Hid (HdY w2 _ (.slice va 1 vp) [x]) := Lib.hid ⟨row_fr HYY.out.1.row FF (fun b hb hm => by rw [List.mem_singleton] at hm; subst hm; exact row_box HYY.out.1.row HB.out.1 (by decide) hb), fun b hb => by have := HYY.out.1.young b hb; have := HYY.out.2; omega, FC.step FF (fun i hi => .inr (by simp at hi; omega))⟩
        refine hK _ _ HE.out.fr ?_
        clear hK K z0 z1 z2 z3 z4 y0 y1 y2 y3 y4
        try simp only [Act.put, List.setIfInBounds_toArray, List.set_cons_succ, List.set_cons_zero]
        have HKF := Lib.hid KF
        clear KF FF FC
        generalize World.setCell _ ⟨B, 4, none⟩ (.slice va 1 vp) = wf at *
        refine tree_last rfl rfl (fun K hK => ?_)
        go_simp
        refine hK _ _ ?_
        clear hK K
        refine noPanic_nmZ ?_
        go_wp2_with fail
        go_meet
        case rel => exact ⟨B, .slice va 1 vp, x, rfl, rfl, HX1, HX2, HE, HKF, Lib.hid hBn⟩
    case rest =>
      obtain ⟨B, u, x, rfl, rfl, HX1, HX2, HY, HBx, HBn⟩ := hcut
      refine hK _ _ ?_
      clear hK K CB kc0 CD CL
      go_wp2_with fail
      go_loopw [5, 8] (fun cv iv wr => ∃ (i c : Nat) (u : Value) (l : List Hd), cv = .int .i64 c ∧ iv = .int .i64 i ∧ c ≤ 7 ∧ 1 ≤ i ∧ i ≤ 6 ∧ Hid (l.length = i) ∧ Hid (fmB ⟨⟨d0, d1, d2, d3⟩, l⟩ = true) ∧ Hid (∀ y, l.getLast? = some y → y.car = c) ∧ Hid (HdY w2 wr u l) ∧ Hid (wr.heap[B]? = some (.cells #[.int .i64 d0, .int .i64 d1, .int .i64 d2, .int .i64 d3, u] 44 (0, 0)))) (fun _ iv _ => 7 - (RowKit.intOf iv).toNat)
      case atStart => exact ⟨1, c, u, [x], rfl, rfl, hc, by omega, by omega, Lib.hid rfl, HX2, Lib.hid (fun y hy => by cases hy; exact HX1.out), HY, HBx⟩
      case round =>
        obtain ⟨i, c, u, l, rfl, rfl, hc, h1, h6, HLN, HFM, HLC, HY, HB⟩ := hrel
        have hfr := HY.out.fr
        have e5 := hfr.cel b5 (by simp)
        by_cases hlt : i < F.length
        · by_cases hl6 : i < 6
          · have qa : decide (i < F.length) = true := decide_eq_true hlt
            have qb : decide ((i : Int) < 6) = true := decide_eq_true (by omega)
            obtain ⟨fb, fo, rfl, hfc⟩ := HFA.out.at_ (by omega)
            have f0 := hfr.cel (HK2.out.2.cel (hfc i (.int .i64 F[i]) (by simp [intC, hlt])) (by simp)) (by simp)
            have CP := Lib.hid fun W => pick25_c F[i] 7 W (HFI.out _ (List.getElem_mem hlt)) (by omega) (by omega)
            have hp := pickI_bound F[i] 7 (by omega)
            generalize F[i] = x0 at *
            generalize pickI x0 7 = p0 at *
            obtain ⟨p, rfl⟩ := Int.eq_ofNat_of_zero_le hp.1
            have hp6 : p ≤ 6 := by omega
            clear hfc hp
            go_wp2_with fail
            refine (CP.out _).mono ?_
            rintro e wx ⟨rfl, rfl⟩
            go_wp2_with fail
            obtain ⟨c2, hc2⟩ : ∃ c2 : Nat, ((c : Int) + 1 + p) % 8 = c2 := ⟨(c + 1 + p) % 8, by omega⟩
            have hc7 : c2 ≤ 7 := by omega
            have hne : (c2 : Int) ≠ c := by omega
            rw [hc2]
            clear hc2 hp6 f0 CP e5
            obtain ⟨ua, up, rfl⟩ := HY.out.at_.val
            have hc8 : c2 < allK.length := by rw [allK_len]; omega
            have k0 := hfr.cel (HKC.out c2 (.string allK[c2]) (by simp [hc8])) (by simp)
            have hBk : kb ≠ B := fun e => by have := cell_ltT (HKC.out c2 (.string allK[c2]) (by simp [hc8])); have := HBn.out; omega
            have hky := allK_size (List.getElem_mem hc8)
            generalize allK[c2] = ky at *
            obtain ⟨sn, hs256, hsn⟩ := HKS.out c2 (by simp; omega)
            obtain ⟨nb, no, rfl, hnc⟩ := HN2.out.at_ (by have := HKL.out; omega)
            have n0 := hfr.cel (hnc c2 (.int .i64 sn) (by rw [List.getElem?_map, hsn]; rfl)) (by simp)
            have hBm : nb ≠ B := fun e => by have := cell_ltT (hnc c2 (.int .i64 sn) (by rw [List.getElem?_map, hsn]; rfl)); have := HBn.out; omega
            have hcI : (c2 : Int) < 8 := by omega
            have g0 := cell_of_blk HB.out 0; have g1 := cell_of_blk HB.out 1; have g2 := cell_of_blk HB.out 2; have g3 := cell_of_blk HB.out 3; have g4 := cell_of_blk HB.out 4
            have CKW := Lib.hid fun W (hf : Fr [] wr W) => known25_c (.slice (some ⟨kb, ko, none⟩) 8 kc) allK sn W (by rw [allK_len]; exact (HK2.out.1.same (hfr.trans hf))) (by rw [allK_len]; omega) (by omega)
            have CPS := Lib.hid fun W (hf : Fr [] wr W) (W1 : World) (kv2 : Value) (h : StY W W1 kv2 (knownM allK sn)) => pass25_c ky kv2 (knownM allK sn) ⟨d0, d1, d2, d3⟩ (.slice ua l.length up) l (c2 : Int) W1 hky (sl_of_row h.row) (known_ok sn) (by rw [knownM_len, allK_len]) (fun k hk => by rcases known_size hk with h | h <;> omega) (HY.out.at_.same (hf.trans h.fr)) (srcAt_of_row (row_fr HY.out.row (hf.trans h.fr) (by simp))) HFM.out (by have := HLN.out; omega) (by omega) (fun y hy => by rw [HLC.out y hy]; exact hne)
            have hkl2 : (knownM allK sn).length = 8 := by rw [knownM_len, allK_len]
            have HKL2 := Lib.hid hkl2
            have HFR := Lib.hid hfr
            clear hnc hsn hs256 hky hne hfr hc8 hkl2
            -- @@R
            refine reg_n (Fr [] wr) 16 [.take 0, .take 1, .take 2, .take 3, .take 4, .take 5, .take 6, .take 7, .take 8, .take 10, .take 11, .one 9, .one 12, .take 13, .take 14, .free 15, .one 16] (by kernel_rfl) (by kernel_rfl) (by kernel_rfl) rfl ?_
            have FC : Fr [] wr wr.drew := Fr.drew _ _
            generalize wr.drew = WC at FC ⊢
            iterate 11 (refine n_take (v := ?_) rfl rfl rfl FC (fun w hS => ?_) ?_; rotate_left; (focus (have e0 := hS.cel k0 (by simp); have e1 := hS.cel n0 (by simp); have e2 := hS.cel g0 (by simp); have e3 := hS.cel g1 (by simp); have e4 := hS.cel g2 (by simp); have e5 := hS.cel g3 (by simp); have e6 := hS.cel g4 (by simp); clear hS; go_simp; (try rw [if_pos hcI]); rfl)); simp only [List.setIfInBounds_toArray, List.set_cons_succ, List.set_cons_zero])
            refine n_one rfl rfl (fun K hK => ?_)
            go_simp
            refine (CKW.out _ FC).mono ?_
            rintro e w4 ⟨kv2, rfl, hk2⟩
            have CPX := Lib.hid (CPS.out _ FC _ _ hk2)
            obtain ⟨ka2, kc2, rfl⟩ := hk2.val
            rw [HKL2.out] at *
            have FC := FC.trans hk2.fr
            clear hk2 CPS CKW
            refine hK _ _ FC ?_
            clear hK K
            try simp only [Act.put, List.setIfInBounds_toArray, List.set_cons_succ, List.set_cons_zero]
            refine n_one rfl rfl (fun K hK => ?_)
            go_simp
            refine CPX.out.mono ?_
            rintro e w5 ⟨v', x, rfl, hx1, hx2, hY⟩
            have HX1 := Lib.hid hx1; have HX2 := Lib.hid hx2
            obtain ⟨va, vp, rfl⟩ := hY.at_.val
            have HYN := Lib.hid (hY.older (HFR.out.trans FC))
            have HBN := Lib.hid ((FC.trans hY.fr).keep HB.out (by simp))
            have FC := FC.trans hY.fr
            obtain ⟨n, hn⟩ : ∃ n, (l ++ [x]).length = n := ⟨_, rfl⟩
            have HNN := Lib.hid hn
            rw [hn] at HYN ⊢
            refine hK _ _ FC ?_
            clear hK K hx1 hx2 hY hn CPX g0 g1 g2 g3 g4 k0 n0
            try simp only [Act.put, List.setIfInBounds_toArray, List.set_cons_succ, List.set_cons_zero]
            iterate 2 (refine n_take (v := ?_) rfl rfl rfl FC (fun w hS => ?_) ?_; rotate_left; (focus (clear hS; go_simp; rfl)); simp only [List.setIfInBounds_toArray, List.set_cons_succ, List.set_cons_zero])
            (refine n_free (v := ?_) rfl rfl rfl FC (fun w => ?_) ?_; rotate_left; (focus (go_simp; rfl)); simp only [List.setIfInBounds_toArray, List.set_cons_succ, List.set_cons_zero])
            have z0 := cell_of_blk HBN.out 0; have z1 := cell_of_blk HBN.out 1; have z2 := cell_of_blk HBN.out 2; have z3 := cell_of_blk HBN.out 3; have z4 := cell_of_blk HBN.out 4
            have y0 := free_of_blk HBN.out 0; have y1 := free_of_blk HBN.out 1; have y2 := free_of_blk HBN.out 2; have y3 := free_of_blk HBN.out 3; have y4 := free_of_blk HBN.out 4
            refine n_last (o := ⟨none, _, _, _, _, _⟩) rfl rfl (fun K hK => ?_)
            go_simp
            try go_upon
            try go_simp
            obtain ⟨KF, FF⟩ := set5 HBN.out (.int .i64 d0) (.int .i64 d1) (.int .i64 d2) (.int .i64 d3) (.slice va n vp)
            have HE : Hid (HdY w2 _ (.slice va n vp) (l ++ [x])) := Lib.hid ⟨row_fr HYN.out.row FF (fun b hb hm => by rw [List.mem_singleton] at hm; subst hm; exact row_box HYN.out.row HBN.out (by decide) hb), HYN.out.young, HYN.out.fr.step FF (fun i hi => .inr (by have := HBn.out; simp at hi; omega))⟩
            have HKF := Lib.hid KF
            refine hK _ _ ?_
            clear hK K z0 z1 z2 z3 z4 y0 y1 y2 y3 y4 KF FF FC
            generalize World.setCell _ ⟨B, 4, none⟩ (.slice va n vp) = w6 at *
            try simp only [Act.put, List.setIfInBounds_toArray, List.set_cons_succ, List.set_cons_zero]
            refine noPanic_nmZ ?_
            go_wp2_with fail
            go_roundw
            case rel => exact ⟨i + 1, c2, .slice va n vp, l ++ [x], rfl, by go_num, hc7, by omega, by omega, Lib.hid (by have := HLN.out; simp; omega), HX2, Lib.hid (fun y hy => by rw [List.getLast?_append] at hy; cases hy; exact HX1.out), HE, HKF⟩
            case measure => simp [RowKit.intOf]; omega
          · have qa : decide (i < F.length) = true := decide_eq_true hlt
            have qb : decide ((i : Int) < 6) = false := decide_eq_false (by omega)
            obtain ⟨ua, up, rfl⟩ := HY.out.at_.val
            have HZ := hfr.keep HA2.out.2 (by simp)
            have z0 := cell_of_blk HZ 0; have z1 := cell_of_blk HZ 1; have z2 := cell_of_blk HZ 2; have z3 := cell_of_blk HZ 3; have z4 := cell_of_blk HZ 4
            have y0 := free_of_blk HZ 0; have y1 := free_of_blk HZ 1; have y2 := free_of_blk HZ 2; have y3 := free_of_blk HZ 3; have y4 := free_of_blk HZ 4
            have g0 := cell_of_blk HB.out 0; have g1 := cell_of_blk HB.out 1; have g2 := cell_of_blk HB.out 2; have g3 := cell_of_blk HB.out 3; have g4 := cell_of_blk HB.out 4
            obtain ⟨KF, FF⟩ := set5 HZ (.int .i64 d0) (.int .i64 d1) (.int .i64 d2) (.int .i64 d3) (.slice ua l.length up)
            have HE : Hid (HdY w _ (.slice ua l.length up) l) := Lib.hid ⟨row_fr HY.out.row FF (fun b hb hm => by have := HY.out.young b hb; have := HS2.out; simp at hm; omega), fun b hb => by have := HY.out.young b hb; have := HS2.out; omega, (HK2.out.2.trans hfr).step FF (fun i hi => .inr (by simp at hi; omega))⟩
            have k0 := cell_of_blk KF 0; have k1 := cell_of_blk KF 1; have k2 := cell_of_blk KF 2; have k3 := cell_of_blk KF 3; have k4 := cell_of_blk KF 4
            clear HZ KF FF hfr
            go_wp2_with fail
            refine bodyPost_ret (v := .agg #[.int .i64 d0, .int .i64 d1, .int .i64 d2, .int .i64 d3, .slice ua l.length up]) (by simp [results, Tryz.results8, go_sem, k0, k1, k2, k3, k4]; try rfl) rfl ?_
            exact ⟨_, l, rfl, HFM.out, HE.out⟩
        · have qa : decide (i < F.length) = false := decide_eq_false hlt
          obtain ⟨ua, up, rfl⟩ := HY.out.at_.val
          have HZ := hfr.keep HA2.out.2 (by simp)
          have z0 := cell_of_blk HZ 0; have z1 := cell_of_blk HZ 1; have z2 := cell_of_blk HZ 2; have z3 := cell_of_blk HZ 3; have z4 := cell_of_blk HZ 4
          have y0 := free_of_blk HZ 0; have y1 := free_of_blk HZ 1; have y2 := free_of_blk HZ 2; have y3 := free_of_blk HZ 3; have y4 := free_of_blk HZ 4
          have g0 := cell_of_blk HB.out 0; have g1 := cell_of_blk HB.out 1; have g2 := cell_of_blk HB.out 2; have g3 := cell_of_blk HB.out 3; have g4 := cell_of_blk HB.out 4
          obtain ⟨KF, FF⟩ := set5 HZ (.int .i64 d0) (.int .i64 d1) (.int .i64 d2) (.int .i64 d3) (.slice ua l.length up)
          have HE : Hid (HdY w _ (.slice ua l.length up) l) := Lib.hid ⟨row_fr HY.out.row FF (fun b hb hm => by have := HY.out.young b hb; have := HS2.out; simp at hm; omega), fun b hb => by have := HY.out.young b hb; have := HS2.out; omega, (HK2.out.2.trans hfr).step FF (fun i hi => .inr (by simp at hi; omega))⟩
          have k0 := cell_of_blk KF 0; have k1 := cell_of_blk KF 1; have k2 := cell_of_blk KF 2; have k3 := cell_of_blk KF 3; have k4 := cell_of_blk KF 4
          clear HZ KF FF hfr
          go_wp2_with fail
          refine bodyPost_ret (v := .agg #[.int .i64 d0, .int .i64 d1, .int .i64 d2, .int .i64 d3, .slice ua l.length up]) (by simp [results, Tryz.results8, go_sem, k0, k1, k2, k3, k4]; try rfl) rfl ?_
          exact ⟨_, l, rfl, HFM.out, HE.out⟩
      
end Go.Proofs.YtahfpadaoobkfaaGreatDoor
