/-
  The journal's laws: JournalKeeps, from readable arguments.
-/
import Derived.Test.YtfmlaepgnfphiaaGreatDoorQL10z
namespace Go.Proofs.YtfmlaepgnfphiaaGreatDoor
open Go.RowKit Go.Lib

set_option maxRecDepth 100000 in
set_option maxHeartbeats 8000000 in
theorem keeps_c (n : Int) (a0 : Addr) (a : Option Addr) (cap : Nat) (xs : List OpV) (w : World) (hn : -9223372036854775808 ≤ n ∧ n ≤ 9223372036854775807) (hs : RowOp w a cap xs) (hR : RndAt w) (hA : DmgAt w a0) :
    Calls Tryz.prog 4 #[.int .i64 n, .slice a xs.length cap] w fun e w' => e = .returned (.bool true) ∧ Fr [] w w' := by
  have hlen : xs.length ≤ 9223372036854775807 := Nat.le_trans hs.le hs.max
  have HSa := Lib.hid (sane10_c a0 w hR hA)
  have HSz := Lib.hid fun w => size10_c n w hn
  have hmb := szJ_bound n
  generalize szJ n = m at *
  have HS := Lib.hid hs; have HR := Lib.hid hR; have HA := Lib.hid hA
  clear hs hR hA
  go_enter Tryz.func4, Tryz.ntmps4
  go_wp2_with fail
  refine HSa.out.mono ?_
  rintro e w1 ⟨rfl, f1⟩
  have HF1 := Lib.hid f1
  clear f1 HSa
  go_wp2_with fail
  refine (HSz.out _).mono ?_
  rintro e w1' ⟨rfl, rfl⟩
  go_wp2_with fail
  refine (new_s m w w1 HF1.out (by omega) (by omega)).mono ?_
  rintro e w2 ⟨db, fp, rfl, js2⟩
  have C0 := clean_new m
  have hd0 : (Dk.new m).dur.length = m := by simp [Dk.new]
  have HOp := open_s js2 HR.out HA.out (by simp [Dk.new])
  rw [clean_open C0] at HOp
  have HP := Lib.hid HOp
  have HC0 := Lib.hid C0; have HD0 := Lib.hid hd0
  clear js2 HOp C0 hd0 HF1
  go_wp2_with fail
  refine HP.out.mono ?_
  rintro e w3 ⟨jb, vr, fp3, he, js3⟩
  have he' : e = .returned (.tuple #[.pointer (some ⟨jb, 0, none⟩), .int .i64 0]) := he
  subst he'
  replace js3 : JS w w3 db fp3 (Dk.new m) [⟨jb, vr, tp0.adds [], false⟩] := js3
  have HJ3 := Lib.hid js3
  clear he js3 HP
  go_wp2_with fail
  go_loopw [8, 10, 11] (fun jv sv iv wr => ∃ (k : Nat) (fp' : List Nat) (D : Dk) (jb : Nat) (vr' : Value) (L : List ByteArray) (br : Bool), jv = .pointer (some ⟨jb, 0, none⟩) ∧ iv = .int .i64 k ∧ k ≤ xs.length ∧ k ≤ 20 ∧ Hid (JS w wr db fp' D [⟨jb, vr', tp0.adds L, br⟩]) ∧ Hid (SlF wr sv L (jsB jb vr' fp')) ∧ Hid (KpP m D L br)) (fun _ _ iv _ => 20 - (RowKit.intOf iv).toNat)
  case atStart => exact ⟨0, fp3, _, jb, vr, [], false, rfl, rfl, Nat.zero_le _, by omega, HJ3, Lib.hid (SlF.nil _ _), Lib.hid ⟨HD0.out, Nat.zero_le _, .inl ⟨rfl, HC0.out.any⟩⟩⟩
  case round =>
    clear HJ3 HC0 HD0
    obtain ⟨k, fp', D, jb, vr', L, br, rfl, rfl, hk, hk20, HJ, HW, HP⟩ := hrel
    by_cases hlt : k < xs.length
    · by_cases hl20 : k < 20
      · have hLl : L.length ≤ 1500 := by have := len_le_enc L; have := HP.out.fit; omega
        obtain ⟨b, off, rfl, hc⟩ := HS.out.cells (by omega)
        obtain ⟨c0, c1, c2, c3⟩ := hc k hlt
        have hy := HS.out.ok _ (List.getElem_mem hlt)
        generalize xs[k] = y at *
        obtain ⟨kind, lv, l, on, ka, kc, keep⟩ := y
        simp only at c0 c1 c2 c3
        obtain ⟨k1, k2, n1, n2, hg, hrow⟩ := hy
        simp only at k1 k2 n1 n2 hg hrow
        obtain ⟨ga, gc, rfl, hg2, hg3⟩ := hg
        have HFe := Lib.hid fun W (hf : Fr [] w W) => few10_c ga gc l W (hg2.same hf) hg3
        have HPk := Lib.hid fun w => pick10_c kind 8 w ⟨k1, k2⟩ (by omega) (by omega)
        have HC0 := Lib.hid c0; have HC1 := Lib.hid c1; have HC2 := Lib.hid c2; have HC3 := Lib.hid c3; have HRow := Lib.hid hrow
        clear hc hg2 hg3 c0 c1 c2 c3 hrow
        generalize pickJ kind 8 = z at *
        have c0 := HJ.out.fr.cel HC0.out (by simp)
        go_wp2_with fail
        clear c0
        refine (HPk.out _).mono ?_
        rintro e w4' ⟨rfl, rfl⟩
        by_cases h5 : z = 5
        · subst h5
          have HPn := Lib.hid fun w => pick10_c on 5 w ⟨n1, n2⟩ (by omega) (by omega)
          have hpb := pickJ_bound on 5 (by omega)
          generalize pickJ on 5 = pc at *
          obtain ⟨p, rfl⟩ := Int.eq_ofNat_of_zero_le hpb.1
          have hp5 : p < 5 := by omega
          clear hpb
          have c2 := HJ.out.fr.cel HC2.out (by simp)
          go_wp2_with fail
          clear c2
          refine (HPn.out _).mono ?_
          rintro e w5' ⟨rfl, rfl⟩
          go_wp2_with fail
          refine (cut_s HJ.out (1 + (p : Int)) (by omega)).mono ?_
          rintro e w8 ⟨rfl, js8, u8⟩
          have HJ8 := Lib.hid js8; have HW8 := Lib.hid (HW.out.upd (upd_jsB u8)); have HP8 := Lib.hid (HP.out.cut (1 + (p : Int)) (by omega))
          clear js8 u8 HJ HW HP
          generalize D.cutD (1 + (p : Int)) = D8 at *

          obtain ⟨sa, sc, rfl⟩ := HW8.out.val
          go_wp2_with fail
          refine (rec_r (L := L) HJ8.out (List.mem_singleton.2 rfl) (by omega)).mono ?_
          rintro e wY ⟨ya, yc, rfl, rY, fY, _⟩
          have sY := sl_of_row rY
          have hyc := sY.caps
          have HY := Lib.hid sY
          have HJY := Lib.hid (HJ8.out.same fY); have HWY := Lib.hid (HW8.out.same fY)
          clear rY fY sY HJ8 HW8
          go_wp2_with fail
          refine (same10_c ya sa yc sc L L wY HY.out HWY.out.sl).mono ?_
          rintro e wZ ⟨rfl, fZ⟩
          rw [decide_eq_true (rfl : L = L)]
          have HJZ := Lib.hid (HJY.out.same fZ); have HWZ := Lib.hid (HWY.out.same fZ)
          clear fZ HY HJY HWY hyc
          go_wp2_with fail
          go_roundw
          case rel => exact ⟨k + 1, fp', D8, jb, vr', L, br, rfl, by go_num, hlt, by omega, HJZ, HWZ, HP8⟩
          case measure => simp [RowKit.intOf]; omega
        · have hb5 : (z == 5) = false := by simpa using h5
          by_cases h6 : z = 6
          · subst h6
            have c2 := HJ.out.fr.cel HC2.out (by simp)
            have c3 := HJ.out.fr.cel HC3.out (by simp)
            have hkl := HRow.out.le
            have hkm := HRow.out.max
            obtain ⟨mK, hmK⟩ : ∃ q, min keep.length 20 = q := ⟨_, rfl⟩
            have hK1 : mK ≤ keep.length := by omega
            have hK2 : mK ≤ kc := by omega
            have hiK : min (keep.length : Int) 20 = (mK : Int) := by omega
            have hiK2 : (if (20 : Int) < (keep.length : Int) then 20 else (keep.length : Int)) = (mK : Int) := by split <;> omega
            have hK20 : mK ≤ 20 := by omega
            have HKl : Shut ((keep.take mK).length = mK) := ⟨by simp; omega⟩
            have HK := Lib.hid (HRow.out.take mK hK1)
            clear hmK HRow
            generalize keep.take mK = kp at *
            generalize keep.length = kl at *
            obtain ⟨Lr, D6, hop, KP6, htk, hll⟩ := HP.out.opens HJ.out.ok kp on
            have CR := fun W (hj : JS w W db fp' D [⟨jb, vr', tp0.adds L, br⟩]) => crash_s hj ka kc kp on HK.out (by rw [HKl.out]; omega) n1 n2
            rw [HKl.out] at CR
            have HCR := Lib.hid CR
            have HOp := Lib.hid hop; have HP6 := Lib.hid KP6; have HTk := Lib.hid htk
            have hp0 : (D.crash kp on).pend.length ≤ 4000000000 := Nat.zero_le _
            have hlr : Lr.length ≤ 1500 := by have := len_le_enc Lr; have := KP6.fit; omega
            generalize D.crash kp on = Dc at *
            clear CR hop KP6 htk HP
            go_wp2_with fail
            refine reg_tree (Fr [] wr) 19 (.take 0 (.take 1 (.take 2 (.take 3 (.take 4 (.take 5 (.take 6 (.take 7 (.take 8 (.take 9 (.take 10 (.take 11 (.take 12 (.take 13 (.take 14 (.take 15 (.take 16 (.take 17 (.take 18 (.one 19 .nil)))))))))))))))))))) (by kernel_rfl) (by kernel_rfl) (by kernel_rfl) rfl ?_
            have F0 : Fr [] wr wr.drew := Fr.drew _ _
            generalize wr.drew = WC at F0 ⊢
            iterate 12 (refine tree_take (v := ?_) rfl rfl rfl F0 (fun w hS => ?_) ?_; rotate_left; (focus (have e2 := hS.cel c2 (by simp); have e3 := hS.cel c3 (by simp); clear hS; go_simp; rfl)); simp only [List.setIfInBounds_toArray, List.set_cons_succ, List.set_cons_zero])
            iterate 7 (refine tree_take (v := ?_) rfl rfl rfl F0 (fun w hS => ?_) ?_; rotate_left; (focus (have e2 := hS.cel c2 (by simp); have e3 := hS.cel c3 (by simp); clear hS; go_simp; rfl)); simp only [List.setIfInBounds_toArray, List.set_cons_succ, List.set_cons_zero])
            clear c2 c3 hiK hiK2
            refine tree_last rfl rfl (fun K hK => ?_)
            go_simp
            refine (HCR.out WC (HJ.out.same F0)).mono ?_
            rintro e w5 ⟨rfl, fp5, js5, u5⟩
            refine hK _ _ ?_
            clear hK K
            refine noPanicN ?_
            have HJ5 := Lib.hid js5; have HW5 := Lib.hid ((HW.out.same F0).upd (upd_jsB u5))
            clear js5 u5 F0 HJ HW HCR
            go_wp2_with fail
            refine (open_u HJ5.out HR.out HA.out hp0 HOp.out).mono ?_
            rintro e w6 ⟨kb, vk, fp6, rfl, js6, u6, _⟩
            have HJ6 : Hid (JS w w6 db fp6 D6 [⟨kb, vk, tp0.adds Lr, false⟩]) := Lib.hid (js6.only (by simp)); have HW6 := Lib.hid (HW5.out.upd (upd_jsB u6))
            clear js6 u6 HJ5 HW5 HOp
            obtain ⟨sa, sc, rfl⟩ := HW6.out.val
            go_wp2_with fail
            refine (rec_r (L := Lr) HJ6.out (List.mem_singleton.2 rfl) (by omega)).mono ?_
            rintro e w7 ⟨ra, rc, rfl, r7, f7, _⟩
            have HJ7 := Lib.hid (HJ6.out.same f7); have HW7 := Lib.hid (HW6.out.same f7)
            clear r7 f7 HJ6 HW6
            have hlf : decide ((Lr.length : Int) < (L.length : Int)) = false := by simpa using hll
            go_wp2_with fail
            refine (rec_r (L := Lr) HJ7.out (List.mem_singleton.2 rfl) (by omega)).mono ?_
            rintro e w8 ⟨rb, rd, rfl, r8, f8, _⟩
            have s8 := sl_of_row r8
            have hcp := s8.caps
            have s8' := s8.cut L.length hll
            rw [← List.map_take, HTk.out] at s8'
            have HS8 := Lib.hid s8'
            have HJ8 := Lib.hid (HJ7.out.same f8); have HW8 := Lib.hid (HW7.out.same f8)
            clear r8 f8 s8 s8' HJ7 HW7
            go_wp2_with fail
            refine (same10_c rb sa rd sc L L w8 HS8.out HW8.out.sl).mono ?_
            rintro e w9 ⟨rfl, f9⟩
            rw [decide_eq_true (rfl : L = L)]
            have HJ9 := Lib.hid (HJ8.out.same f9)
            clear f9 HJ8 HW8 HS8 hcp HTk hlf
            go_wp2_with fail
            refine (rec_r (L := Lr) HJ9.out (List.mem_singleton.2 rfl) (by omega)).mono ?_
            rintro e wA ⟨qa, qc, rfl, rA, fA, yA⟩
            have HWA : Hid (SlF wA (.slice qa Lr.length qc) Lr (jsB kb vk fp6)) := Lib.hid ⟨sl_of_row rA, far_new HJ9.out yA⟩
            have HJA := Lib.hid (HJ9.out.same fA)
            clear rA fA yA HJ9

            go_wp2_with fail
            refine (rec_r (L := Lr) HJA.out (List.mem_singleton.2 rfl) (by omega)).mono ?_
            rintro e wY ⟨ya, yc, rfl, rY, fY, _⟩
            have sY := sl_of_row rY
            have hyc := sY.caps
            have HY := Lib.hid sY
            have HJY := Lib.hid (HJA.out.same fY); have HWY := Lib.hid (HWA.out.same fY)
            clear rY fY sY HJA HWA
            go_wp2_with fail
            refine (same10_c ya qa yc qc Lr Lr wY HY.out HWY.out.sl).mono ?_
            rintro e wZ ⟨rfl, fZ⟩
            rw [decide_eq_true (rfl : Lr = Lr)]
            have HJZ := Lib.hid (HJY.out.same fZ); have HWZ := Lib.hid (HWY.out.same fZ)
            clear fZ HY HJY HWY hyc
            go_wp2_with fail
            go_roundw
            case rel => exact ⟨k + 1, fp6, D6, kb, vk, Lr, false, rfl, by go_num, hlt, by omega, HJZ, HWZ, HP6⟩
            case measure => simp [RowKit.intOf]; omega
          · have hb6 : (z == 6) = false := by simpa using h6
            by_cases h7 : z = 7
            · subst h7
              have c2 := HJ.out.fr.cel HC2.out (by simp)
              have c3 := HJ.out.fr.cel HC3.out (by simp)
              have hkl := HRow.out.le
              have hkm := HRow.out.max
              obtain ⟨mK, hmK⟩ : ∃ q, min keep.length 20 = q := ⟨_, rfl⟩
              have hK1 : mK ≤ keep.length := by omega
              have hK2 : mK ≤ kc := by omega
              have hiK : min (keep.length : Int) 20 = (mK : Int) := by omega
              have hiK2 : (if (20 : Int) < (keep.length : Int) then 20 else (keep.length : Int)) = (mK : Int) := by split <;> omega
              have hK20 : mK ≤ 20 := by omega
              have HKl : Shut ((keep.take mK).length = mK) := ⟨by simp; omega⟩
              have HK := Lib.hid (HRow.out.take mK hK1)
              clear hmK HRow
              generalize keep.take mK = kp at *
              generalize keep.length = kl at *
              obtain ⟨Lr, D6, hop, KP6, htk, hll⟩ := HP.out.opens HJ.out.ok kp on
              have CR := fun W (hj : JS w W db fp' D [⟨jb, vr', tp0.adds L, br⟩]) => crash_s hj ka kc kp on HK.out (by rw [HKl.out]; omega) n1 n2
              rw [HKl.out] at CR
              have HCR := Lib.hid CR
              have HOp := Lib.hid hop; have HP6 := Lib.hid KP6; have HTk := Lib.hid htk
              have hp0 : (D.crash kp on).pend.length ≤ 4000000000 := Nat.zero_le _
              have hlr : Lr.length ≤ 1500 := by have := len_le_enc Lr; have := KP6.fit; omega
              generalize D.crash kp on = Dc at *
              clear CR hop KP6 htk HP
              go_wp2_with fail
              refine reg_tree (Fr [] wr) 19 (.take 0 (.take 1 (.take 2 (.take 3 (.take 4 (.take 5 (.take 6 (.take 7 (.take 8 (.take 9 (.take 10 (.take 11 (.take 12 (.take 13 (.take 14 (.take 15 (.take 16 (.take 17 (.take 18 (.one 19 .nil)))))))))))))))))))) (by kernel_rfl) (by kernel_rfl) (by kernel_rfl) rfl ?_
              have F0 : Fr [] wr wr.drew := Fr.drew _ _
              generalize wr.drew = WC at F0 ⊢
              iterate 12 (refine tree_take (v := ?_) rfl rfl rfl F0 (fun w hS => ?_) ?_; rotate_left; (focus (have e2 := hS.cel c2 (by simp); have e3 := hS.cel c3 (by simp); clear hS; go_simp; rfl)); simp only [List.setIfInBounds_toArray, List.set_cons_succ, List.set_cons_zero])
              iterate 7 (refine tree_take (v := ?_) rfl rfl rfl F0 (fun w hS => ?_) ?_; rotate_left; (focus (have e2 := hS.cel c2 (by simp); have e3 := hS.cel c3 (by simp); clear hS; go_simp; rfl)); simp only [List.setIfInBounds_toArray, List.set_cons_succ, List.set_cons_zero])
              clear c2 c3 hiK hiK2
              refine tree_last rfl rfl (fun K hK => ?_)
              go_simp
              refine (HCR.out WC (HJ.out.same F0)).mono ?_
              rintro e w5 ⟨rfl, fp5, js5, u5⟩
              refine hK _ _ ?_
              clear hK K
              refine noPanicN ?_
              have HJ5 := Lib.hid js5; have HW5 := Lib.hid ((HW.out.same F0).upd (upd_jsB u5))
              clear js5 u5 F0 HJ HW HCR
              go_wp2_with fail
              refine (open_u HJ5.out HR.out HA.out hp0 HOp.out).mono ?_
              rintro e w6 ⟨kb, vk, fp6, rfl, js6, u6, _⟩
              have HJ6 : Hid (JS w w6 db fp6 D6 [⟨kb, vk, tp0.adds Lr, false⟩]) := Lib.hid (js6.only (by simp)); have HW6 := Lib.hid (HW5.out.upd (upd_jsB u6))
              clear js6 u6 HJ5 HW5 HOp
              obtain ⟨sa, sc, rfl⟩ := HW6.out.val
              go_wp2_with fail
              refine (rec_r (L := Lr) HJ6.out (List.mem_singleton.2 rfl) (by omega)).mono ?_
              rintro e w7 ⟨ra, rc, rfl, r7, f7, _⟩
              have HJ7 := Lib.hid (HJ6.out.same f7); have HW7 := Lib.hid (HW6.out.same f7)
              clear r7 f7 HJ6 HW6
              have hlf : decide ((Lr.length : Int) < (L.length : Int)) = false := by simpa using hll
              go_wp2_with fail
              refine (rec_r (L := Lr) HJ7.out (List.mem_singleton.2 rfl) (by omega)).mono ?_
              rintro e w8 ⟨rb, rd, rfl, r8, f8, _⟩
              have s8 := sl_of_row r8
              have hcp := s8.caps
              have s8' := s8.cut L.length hll
              rw [← List.map_take, HTk.out] at s8'
              have HS8 := Lib.hid s8'
              have HJ8 := Lib.hid (HJ7.out.same f8); have HW8 := Lib.hid (HW7.out.same f8)
              clear r8 f8 s8 s8' HJ7 HW7
              go_wp2_with fail
              refine (same10_c rb sa rd sc L L w8 HS8.out HW8.out.sl).mono ?_
              rintro e w9 ⟨rfl, f9⟩
              rw [decide_eq_true (rfl : L = L)]
              have HJ9 := Lib.hid (HJ8.out.same f9)
              clear f9 HJ8 HW8 HS8 hcp HTk hlf
              go_wp2_with fail
              refine (rec_r (L := Lr) HJ9.out (List.mem_singleton.2 rfl) (by omega)).mono ?_
              rintro e wA ⟨qa, qc, rfl, rA, fA, yA⟩
              have HWA : Hid (SlF wA (.slice qa Lr.length qc) Lr (jsB kb vk fp6)) := Lib.hid ⟨sl_of_row rA, far_new HJ9.out yA⟩
              have HJA := Lib.hid (HJ9.out.same fA)
              clear rA fA yA HJ9

              go_wp2_with fail
              refine (rec_r (L := Lr) HJA.out (List.mem_singleton.2 rfl) (by omega)).mono ?_
              rintro e wY ⟨ya, yc, rfl, rY, fY, _⟩
              have sY := sl_of_row rY
              have hyc := sY.caps
              have HY := Lib.hid sY
              have HJY := Lib.hid (HJA.out.same fY); have HWY := Lib.hid (HWA.out.same fY)
              clear rY fY sY HJA HWA
              go_wp2_with fail
              refine (same10_c ya qa yc qc Lr Lr wY HY.out HWY.out.sl).mono ?_
              rintro e wZ ⟨rfl, fZ⟩
              rw [decide_eq_true (rfl : Lr = Lr)]
              have HJZ := Lib.hid (HJY.out.same fZ); have HWZ := Lib.hid (HWY.out.same fZ)
              clear fZ HY HJY HWY hyc
              go_wp2_with fail
              go_roundw
              case rel => exact ⟨k + 1, fp6, D6, kb, vk, Lr, false, rfl, by go_num, hlt, by omega, HJZ, HWZ, HP6⟩
              case measure => simp [RowKit.intOf]; omega
            · have hb7 : (z == 7) = false := by simpa using h7
              go_wp2_with fail
              refine (rec_r (L := L) HJ.out (List.mem_singleton.2 rfl) (by omega)).mono ?_
              rintro e w5 ⟨ra, rc, rfl, r5, f5, y5⟩
              have HR5 := Lib.hid r5; have HV5 := Lib.hid (far_new HJ.out y5)
              have HJ5 := Lib.hid (HJ.out.same f5); have HW5 := Lib.hid (HW.out.same f5)
              clear r5 f5 y5 HJ HW
              have c1 := HJ5.out.fr.cel HC1.out (by simp)
              go_wp2_with fail
              clear c1
              refine (HFe.out w5 HJ5.out.fr).mono ?_
              rintro e w6 ⟨v6, rfl, r6, y6, f6⟩
              have s6 := sl_of_row r6
              obtain ⟨va, vc, rfl⟩ := s6.val
              obtain ⟨n', L', br', D', e1, KA, hway⟩ := HP.out.app (fewM l) (few_long l)
              have AP := few_u (HJ5.out.same f6) HR.out l va vc s6 (by rw [HP.out.len]; exact HP.out.fit) HP.out.few
              rw [e1] at AP
              have HAP := Lib.hid AP; have HPA := Lib.hid KA
              have HW6 := Lib.hid (HW5.out.same f6); have HR6 := Lib.hid (row_fr HR5.out f6 (by simp)); have HV6 := Lib.hid (HV5.out.same f6)
              have HWay := Lib.hid hway
              have hfl := fewM_len l
              clear AP KA e1 r6 y6 s6 f6 HJ5 HW5 HR5 HV5 HP hway
              go_wp2_with fail
              refine HAP.out.mono ?_
              rintro e wA ⟨he, vrA, fpA, jsA, uA⟩
              have he' : e = .returned (.int .i64 n') := he
              subst he'
              have HJA : Hid (JS w wA db fpA D' [⟨jb, vrA, tp0.adds L', br'⟩]) := Lib.hid jsA
              have HWA := Lib.hid (HW6.out.upd uA); have HRA := Lib.hid (row_fr HR6.out uA.fr (fun g hg => (HV6.out g hg).1))
              clear he jsA uA HAP HW6 HR6 HV6
              rcases HWay.out with ⟨rfl, hL'⟩ | ⟨hnz, rfl⟩
              · have HLq : Shut (L' = L ++ fewM l) := ⟨hL'⟩
                clear hL' HWay HWA
                have hl1 : L'.length ≤ 1500 := by have := len_le_enc L'; have := HPA.out.fit; omega
                go_wp2_with fail
                have c1 := HJA.out.fr.cel HC1.out (by simp)
                refine reg_tree (Fr [] wA) 10 (.take 1 (.take 3 (.take 4 (.take 5 (.take 6 (.take 7 (.one 0 (.one 2 (.one 8 (.one 9 (.one 10 .nil))))))))))) (by kernel_rfl) (by kernel_rfl) (by kernel_rfl) rfl ?_
                have F0 : Fr [] wA wA.drew := Fr.drew _ _
                generalize wA.drew = WC at F0 ⊢
                iterate 6 (refine tree_take (v := ?_) rfl rfl rfl F0 (fun w hS => ?_) ?_; rotate_left; (focus (have e1 := hS.cel c1 (by simp); clear hS; go_simp; rfl)); simp only [List.setIfInBounds_toArray, List.set_cons_succ, List.set_cons_zero])
                clear c1
                refine tree_one rfl rfl (fun K hK => ?_)
                go_simp
                have fa := Fr.alloc [] WC (.cells #[] 9)
                have row0 : (WC.alloc (.cells #[] 9)).ownsRow 0 9 1 (.slice (some ⟨WC.heap.size, 0, none⟩) 0 0) 0 [] := ⟨rfl, .inr ⟨WC.heap.size, 0, #[], rfl, Nat.zero_le _, heap_alloc_new _ _, Nat.le_refl _, Nat.zero_le _, rfl, rfl⟩⟩
                have hyb := F0.size
                have F1 := F0.trans fa
                refine hK _ _ F1 ?_
                clear hK K
                generalize WC.alloc (.cells #[] 9) = WD at *
                generalize WC.heap.size = gb at *
                try simp only [Act.put, List.setIfInBounds_toArray, List.set_cons_succ, List.set_cons_zero]
                refine tree_one rfl rfl (fun K hK => ?_)
                refine wp_append_src (.tmp 57) (.tmp 58) 33 9 (.string ⟨#[]⟩) 1 16 rfl Tryz.underlying33 infoStr rfl (by decide) (.slice (some ⟨gb, 0, none⟩) 0 0) 0 [] rfl row0 (.slice ra L.length rc) L.length (L.map Value.string) rfl (srcAt_of_row (row_fr HRA.out F1 (by simp))) (by simp) (by simp [Value.oneCell']) (by omega) (by omega) ?_
                intro ga1 cap1 W5 r5 f5 o5
                simp only [Nat.zero_add, List.nil_append] at r5 o5 ⊢
                have F5 : Fr [] wA W5 := F1.step f5 (fun i hi => .inr (by simp [Value.ownBlock] at hi; omega))
                have y5 : ∀ g, (Value.slice ga1 L.length cap1).ownBlock = some g → wA.heap.size ≤ g := fun g hg => by
                  rcases o5 with h | h
                  · rw [hg] at h; simp [Value.ownBlock] at h; omega
                  · rw [hg] at h; have := F1.size; simp at h; omega
                refine hK _ _ F5 ?_
                clear hK K row0 fa f5 o5 F1 F0
                try simp only [Act.put, List.setIfInBounds_toArray]
                refine tree_one rfl rfl (fun K hK => ?_)
                go_simp
                refine (HFe.out W5 (HJA.out.fr.trans F5)).mono ?_
                rintro e W6 ⟨v6, rfl, r6, y6, f6⟩
                refine hK _ _ (F5.trans f6) ?_
                clear hK K
                have r5' := row_fr r5 f6 (by simp)
                have F6 := F5.trans f6
                clear r5 f6 F5
                try simp only [Act.put, List.setIfInBounds_toArray, List.set_cons_succ, List.set_cons_zero]
                refine tree_one rfl rfl (fun K hK => ?_)
                refine wp_append_src (.tmp 59) (.tmp 65) 33 9 (.string ⟨#[]⟩) 1 16 rfl Tryz.underlying33 infoStr rfl (by decide) (.slice ga1 L.length cap1) L.length (L.map Value.string) rfl r5' v6 (fewM l).length ((fewM l).map Value.string) rfl (srcAt_of_row r6) (by simp) (by simp [Value.oneCell']) (by omega) (by omega) ?_
                intro ga2 cap2 W7 r7 f7 o7
                have F7 : Fr [] wA W7 := F6.step f7 (fun i hi => .inr (y5 i (by simpa using hi)))
                have y7 : ∀ g, (Value.slice ga2 (L.length + (fewM l).length) cap2).ownBlock = some g → wA.heap.size ≤ g ∧ g < W7.heap.size := fun g hg => by
                  refine ⟨?_, ownsRow_lt r7 hg⟩
                  rcases o7 with h | h
                  · exact y5 g (h ▸ hg)
                  · rw [hg] at h; have := F6.size; simp at h; omega
                refine hK _ _ F7 ?_
                clear hK K f7 o7 y5 y6 r6 r5' F6
                have hl2 : L.length + (fewM l).length = L'.length := by rw [HLq.out, List.length_append]
                have hm2 : L.map Value.string ++ (fewM l).map Value.string = L'.map Value.string := by rw [HLq.out, List.map_append]
                rw [hl2] at r7 y7 ⊢
                rw [hm2] at r7
                have HWB : Hid (SlF W7 (.slice ga2 L'.length cap2) L' (jsB jb vrA fpA)) := Lib.hid ⟨sl_of_row r7, far_new HJA.out y7⟩
                have HJB := Lib.hid (HJA.out.same F7)
                clear r7 y7 F7 HJA HRA hl2 hm2
                try simp only [Act.put, List.setIfInBounds_toArray]
                refine tree_last rfl rfl (fun K hK => ?_)
                go_simp
                try go_upon
                try go_simp
                refine hK _ _ ?_
                clear hK K
                refine noPanicN ?_

                go_wp2_with fail
                refine (rec_r (L := L') HJB.out (List.mem_singleton.2 rfl) (by omega)).mono ?_
                rintro e wY ⟨ya, yc, rfl, rY, fY, _⟩
                have sY := sl_of_row rY
                have hyc := sY.caps
                have HY := Lib.hid sY
                have HJY := Lib.hid (HJB.out.same fY); have HWY := Lib.hid (HWB.out.same fY)
                clear rY fY sY HJB HWB
                go_wp2_with fail
                refine (same10_c ya ga2 yc cap2 L' L' wY HY.out HWY.out.sl).mono ?_
                rintro e wZ ⟨rfl, fZ⟩
                rw [decide_eq_true (rfl : L' = L')]
                have HJZ := Lib.hid (HJY.out.same fZ); have HWZ := Lib.hid (HWY.out.same fZ)
                clear fZ HY HJY HWY hyc
                go_wp2_with fail
                go_roundw
                case rel => exact ⟨k + 1, fpA, D', jb, vrA, L', br', rfl, by go_num, hlt, by omega, HJZ, HWZ, HPA⟩
                case measure => simp [RowKit.intOf]; omega
              · clear HWay HRA

                obtain ⟨sa, sc, rfl⟩ := HWA.out.val
                go_wp2_with fail
                refine (rec_r (L := L') HJA.out (List.mem_singleton.2 rfl) (by omega)).mono ?_
                rintro e wY ⟨ya, yc, rfl, rY, fY, _⟩
                have sY := sl_of_row rY
                have hyc := sY.caps
                have HY := Lib.hid sY
                have HJY := Lib.hid (HJA.out.same fY); have HWY := Lib.hid (HWA.out.same fY)
                clear rY fY sY HJA HWA
                go_wp2_with fail
                refine (same10_c ya sa yc sc L' L' wY HY.out HWY.out.sl).mono ?_
                rintro e wZ ⟨rfl, fZ⟩
                rw [decide_eq_true (rfl : L' = L')]
                have HJZ := Lib.hid (HJY.out.same fZ); have HWZ := Lib.hid (HWY.out.same fZ)
                clear fZ HY HJY HWY hyc
                go_wp2_with fail
                go_roundw
                case rel => exact ⟨k + 1, fpA, D', jb, vrA, L', br', rfl, by go_num, hlt, by omega, HJZ, HWZ, HPA⟩
                case measure => simp [RowKit.intOf]; omega
      · go_wp2_with fail
        go_ret
        exact ⟨rfl, HJ.out.fr⟩
    · go_wp2_with fail
      go_ret
      exact ⟨rfl, HJ.out.fr⟩

end Go.Proofs.YtfmlaepgnfphiaaGreatDoor
