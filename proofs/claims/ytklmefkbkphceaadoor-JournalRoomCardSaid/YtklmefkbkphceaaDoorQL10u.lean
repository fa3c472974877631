/-
  The journal's laws: JournalRoom, from readable arguments.
-/
import Derived.Test.YtklmefkbkphceaaDoorQL10t
namespace Go.Proofs.YtklmefkbkphceaaDoor
open Go.RowKit Go.Lib

theorem encN_take (l : List ByteArray) (k : Nat) (h : k < l.length) : encN (l.take (k + 1)) = encN (l.take k) + (33 + (putS l[k]).length) := by
  rw [List.take_succ_eq_append_getElem h, encN_append]
  simp only [encN, putS, List.length_append, bts_len]
  omega
theorem encN_le (l : List ByteArray) (h : ∀ r, r ∈ l → r.size ≤ 65536) : encN l ≤ l.length * 65572 := by
  have := enc_few l h head0
  rw [enc_size] at this
  exact this

set_option maxRecDepth 100000 in
set_option maxHeartbeats 2000000 in
theorem room10_c (n more : Int) (a0 : Addr) (v1 : Value) (gl : List ByteArray) (w : World) (hn : -9223372036854775808 ≤ n ∧ n ≤ 9223372036854775807) (hm : -9223372036854775808 ≤ more ∧ more ≤ 9223372036854775807) (hg : GOk w v1 gl) (hR : RndAt w) (hA : DmgAt w a0) :
    Calls Tryd.prog 3 #[.int .i64 n, v1, .int .i64 more] w fun e w' => e = .returned (.bool true) ∧ Fr [] w w' := by
  obtain ⟨ga, gc, rfl, hs, hz⟩ := hg
  have HSa := Lib.hid (sane10_c a0 w hR hA)
  have HSz := Lib.hid fun w => size10_c n w hn
  have HPk := Lib.hid fun w => pick10_c more 100 w hm (by omega) (by omega)
  have hpb := pickJ_bound more 100 (by omega)
  generalize pickJ more 100 = pk at *
  obtain ⟨p, rfl⟩ := Int.eq_ofNat_of_zero_le hpb.1
  have hp100 : p < 100 := by omega
  have hmk : ∀ W : World, (Instr.makeSlice 38 (.int .i64 (65537 + (p : Int))) (.int .i64 (65537 + (p : Int)))).run Tryd.prog W = .ok (.slice (some ⟨W.heap.size, 0, none⟩) (65537 + p) (65537 + p)) (W.alloc (.cells (madeCells #[Value.int .u8 0] (65537 + p)) 5)) := fun W => run_make_row' (P := Tryd.prog) 38 5 (.int .u8 0) 1 Tryd.underlying38 infoBy rfl .i64 .i64 (65537 + p) (by omega) (by omega) W
  rw [made_bytes] at hmk
  have hzl : (List.replicate (65537 + p) (0 : UInt8)).length = 65537 + p := List.length_replicate
  generalize List.replicate (65537 + p) (0 : UInt8) = zs at *
  have HZL := Lib.hid hzl
  clear hzl hpb
  have hmb := szJ_bound n
  generalize szJ n = m at *
  have HFe := Lib.hid fun W (hf : Fr [] w W) => few10_c ga gc gl W (hs.same hf) hz
  have HR := Lib.hid hR; have HA := Lib.hid hA
  have hfl := fewM_len gl
  have hfs : ∀ r, r ∈ fewM gl → r.size ≤ 100 := fun r hr => fewM_size hr
  have hfn := encN_le (fewM gl) (fun r hr => by have := hfs r hr; omega)
  have hlg := few_long gl
  clear hs hz hR hA
  go_enter Tryd.func3, Tryd.ntmps3
  go_wp2_with fail
  refine HSa.out.mono ?_
  rintro e w1 ⟨rfl, f1⟩
  have HF1 := Lib.hid f1
  clear f1 HSa
  go_wp2_with fail
  refine (HSz.out _).mono ?_
  rintro e w1' ⟨rfl, rfl⟩
  go_wp2_with fail
  refine (new_s m w w1 HF1.out (by omega) (by omega)).mono ?_
  rintro e w2 ⟨db, fp, rfl, js2⟩
  have C0 := clean_new m
  have hd0 : (Dk.new m).dur.length = m := by simp [Dk.new]
  have HOp := open_s js2 HR.out HA.out (by simp [Dk.new])
  rw [clean_open C0] at HOp
  have HP := Lib.hid HOp
  have HC0 := Lib.hid C0; have HD0 := Lib.hid hd0
  clear js2 HOp C0 hd0 HF1
  go_wp2_with fail
  refine HP.out.mono ?_
  rintro e w3 ⟨jb, vr, fp3, he, js3⟩
  have he' : e = .returned (.tuple #[.pointer (some ⟨jb, 0, none⟩), .int .i64 0]) := he
  subst he'
  have js3 : JS w w3 db fp3 (Dk.new m) [⟨jb, vr, tp0.adds [], false⟩] := js3
  have HJ3 := Lib.hid js3
  clear he js3 HP
  go_wp2_with fail
  refine (HFe.out w3 HJ3.out.fr).mono ?_
  rintro e w4 ⟨v, rfl, hr4, hy4, f4⟩
  obtain ⟨va, vc, rfl⟩ := (sl_of_row hr4).val
  have HS4 := Lib.hid hr4; have HJ4 := Lib.hid (HJ3.out.same f4)
  have HV4 := Lib.hid (far_new HJ3.out (fun g hg => ⟨hy4 g hg, ownsRow_lt hr4 hg⟩))
  clear hr4 f4 hy4 HFe HJ3
  generalize fewM gl = fl at *
  have HFS := Lib.hid hfs; have HLG := Lib.hid hlg
  clear hfs hlg
  go_wp2_with fail
  go_loopw [12, 13] (fun nv iv wr => ∃ k : Nat, iv = .int .i64 k ∧ k ≤ fl.length ∧ nv = .int .i64 (encN (fl.take k)) ∧ encN (fl.take k) ≤ k * 65572 ∧ Hid (Fr [] w4 wr)) (fun _ iv _ => fl.length - (RowKit.intOf iv).toNat)
  case atStart => exact ⟨0, rfl, Nat.zero_le _, rfl, by simp [encN], Lib.hid (Fr.refl _ _)⟩
  case round =>
    obtain ⟨k, rfl, hk, rfl, hke, HF⟩ := hrel
    by_cases hlt : k < fl.length
    · obtain ⟨b, off, rfl, hc⟩ := (sl_of_row (row_fr HS4.out HF.out (by simp))).at_ (by omega)
      have ck : wr.cell? ⟨b, off + k, none⟩ = some (.string fl[k]) := hc k _ (by simp [hlt])
      have hsz := HFS.out _ (List.getElem_mem hlt)
      have HE : Shut (encN (fl.take (k + 1)) = encN (fl.take k) + (33 + (putS fl[k]).length)) := ⟨encN_take fl k hlt⟩
      have HPS := Lib.hid (putString01_c fl[k] (by omega) wr)
      have hpl : (putS fl[k]).length ≤ 103 := by
        have := (encZ_len (2 * fl[k].size) (by omega)).1
        simp only [putS, List.length_append, bts_len]; omega
      clear hc
      generalize fl[k] = r at *
      have HQ : Shut ((str (putS r)).size = (putS r).length) := ⟨str_size _⟩
      generalize (putS r).length = q at *
      generalize str (putS r) = ps at *
      have hq := HQ.out
      go_wp2_with fail
      refine HPS.out.mono ?_
      rintro e w6 ⟨rfl, f6⟩
      have HF6 := Lib.hid (HF.out.trans f6)
      clear f6 HPS
      go_wp2_with fail
      go_roundw
      case rel => exact ⟨k + 1, by go_num, hlt, by rw [HE.out]; go_num, by rw [HE.out]; omega, HF6⟩
      case measure => simp [RowKit.intOf]; omega
    · have he : k = fl.length := by omega
      subst he
      rw [List.take_length] at hke ⊢
      have HJ5 := Lib.hid (HJ4.out.same HF.out); have HS5 := Lib.hid (row_fr HS4.out HF.out (by simp)); have HV5 := Lib.hid (HV4.out.same HF.out)
      clear HF HJ4
      by_cases hfit : encN fl ≤ m
      · obtain ⟨D1, E1, C1, N1⟩ := clean_fit HC0.out fl HLG.out (by rw [enc_size, List.nil_append, HD0.out]; exact hfit)
        rw [List.nil_append] at E1 C1
        have AP := app_u HJ5.out HR.out fl va vc (sl_of_row HS5.out) (by simp [encAll]) (by omega) (fun _ => by rw [enc_size]; omega) (by simp [Dk.new])
        rw [E1] at AP
        have HAP := Lib.hid AP
        have HDm : Hid (D1.dur.length = m) := Lib.hid (by rw [N1, HD0.out])
        have HC := Lib.hid C1
        have hb1 : decide ((encN fl : Int) ≤ (m : Int)) = true := by simpa using hfit
        clear AP E1 N1 C1
        go_wp2_with fail
        refine HAP.out.mono ?_
        rintro e w6 ⟨he, vr6, fp6, js6, u6⟩
        have he' : e = .returned (.int .i64 0) := he
        subst he'
        have HSl := Lib.hid (row_fr HS5.out u6.fr (fun g hg => (HV5.out g hg).1)); have HV6 := Lib.hid (HV5.out.upd u6)
        have HJ6 : Hid (JS w w6 db fp6 D1 [⟨jb, vr6, tp0.adds fl, false⟩]) := Lib.hid js6
        have HS6 := Lib.hid hfit
        clear he js6 u6 HAP hfit HJ5
        go_wp2_with fail
        refine (HSz.out _).mono ?_
        rintro e w6' ⟨rfl, rfl⟩
        go_wp2_with fail
        refine (room_s (L := fl) HJ6.out (List.mem_singleton.2 rfl) (by have := HS6.out; omega)).mono ?_
        rintro e w7 ⟨rfl, f7⟩
        rw [HDm.out]
        have HJ7 := Lib.hid (HJ6.out.same f7); have HS7 := Lib.hid (row_fr HSl.out f7 (by simp)); have HV7 := Lib.hid (HV6.out.same f7)
        clear f7 HJ6 HSl HV6
        go_wp2_with fail
        refine (HSz.out _).mono ?_
        rintro e w7' ⟨rfl, rfl⟩
        go_wp2_with fail
        have hfl1 : fl.length ≤ 1000000 := by omega
        refine (rec_u (L := fl) HJ7.out (List.mem_singleton.2 rfl) hfl1).mono ?_
        rintro e w8 ⟨wa, wc, rfl, s8, f8, y8⟩
        have HW8 := Lib.hid s8; have HWF8 := Lib.hid (far_new HJ7.out y8)
        have HJ8 := Lib.hid (HJ7.out.same f8); have HS8 := Lib.hid (row_fr HS7.out f8 (by simp)); have HV8 := Lib.hid (HV7.out.same f8)
        clear s8 f8 y8 HJ7 HS7 HV7
        go_wp2_with (first | ((with_reducible refine wpList_of_wp (o := ⟨some 108, _, _, _, _, _⟩) rfl (fun K hK => ?_)); apply stopD; case _other => exact trivial))
        (refine stopD ?_ ?_; rotate_left; exact trivial)
        have fa := Fr.alloc [] w8 (.cells #[] 9)
        have row0 : (w8.alloc (.cells #[] 9)).ownsRow 0 9 1 (.slice (some ⟨w8.heap.size, 0, none⟩) 0 0) 0 [] := ⟨rfl, .inr ⟨w8.heap.size, 0, #[], rfl, Nat.zero_le _, heap_alloc_new _ _, Nat.le_refl _, Nat.zero_le _, rfl, rfl⟩⟩
        refine wp_append_src (.tmp 106) (.tmp 107) 22 9 (.string ⟨#[]⟩) 1 16 rfl Tryd.underlying22 infoStr rfl (by decide) (.slice (some ⟨w8.heap.size, 0, none⟩) 0 0) 0 [] rfl row0 (.slice va fl.length vc) fl.length (fl.map Value.string) rfl (srcAt_of_row (row_fr HS8.out fa (by simp))) (by simp) (by simp [Value.oneCell']) (by omega) (by omega) ?_
        intro ga1 cap1 W9 r9 f9 o9
        simp only [Nat.zero_add, List.nil_append] at r9 o9 ⊢
        have F9 : Fr [] w8 W9 := fa.step f9 (fun i hi => .inr (by simp [Value.ownBlock] at hi; omega))
        have y9 : ∀ g, (Value.slice ga1 fl.length cap1).ownBlock = some g → w8.heap.size ≤ g := fun g hg => by
          rcases o9 with h | h
          · rw [hg] at h; simp [Value.ownBlock] at h; omega
          · rw [hg] at h; simp at h; omega
        refine hK _ _ ?_
        clear hK K row0 fa f9 o9
        have HR9 := Lib.hid r9; have HY9 := Lib.hid y9; have HF9 := Lib.hid F9
        clear r9 y9 F9 HS8
        go_wp2_with fail
        refine (HPk.out _).mono ?_
        rintro e W9' ⟨rfl, rfl⟩
        go_wp2_with (first | ((with_reducible refine wpList_of_wp (o := ⟨some 113, _, _, _, _, _⟩) rfl (fun K hK => ?_)); apply stopD; case _other => exact trivial))
        (refine stopD ?_ ?_; rotate_left; exact trivial)
        have fA := Fr.alloc [] W9 (.cells (byteCells zs).toArray 5)
        have sb := sl_bytes (heap_alloc_new W9 (.cells (byteCells zs).toArray 5)) HZL.out (by omega)
        refine wp_sl_str (.tmp 112) rfl _ (65537 + p) (65537 + p) zs rfl sb (by omega) HZL.out ?_
        refine hK _ _ ?_
        clear hK K sb
        have hBS : (⟨zs.toArray⟩ : ByteArray).size = 65537 + p := HZL.out
        have HBS : Shut ((⟨zs.toArray⟩ : ByteArray).size = 65537 + p) := ⟨hBS⟩
        clear hBS
        generalize (⟨zs.toArray⟩ : ByteArray) = BS at *
        generalize World.alloc W9 _ = WA at *
        have HRA := Lib.hid (row_fr HR9.out fA (by simp)); have HFA := Lib.hid (HF9.out.trans fA)
        clear fA HR9 HF9
        go_wp2_with (first | ((with_reducible refine wpList_of_wp (o := ⟨some 115, _, _, _, _, _⟩) rfl (fun K hK => ?_)); apply stopD; case _other => exact trivial))
        (refine stopD ?_ ?_; rotate_left; exact trivial)
        have fb := Fr.alloc [] WA (.cells #[.string BS] 9)
        refine wp_append_src (.tmp 108) (.tmp 114) 22 9 (.string ⟨#[]⟩) 1 16 rfl Tryd.underlying22 infoStr rfl (by decide) (.slice ga1 fl.length cap1) fl.length (fl.map Value.string) rfl (row_fr HRA.out fb (by simp)) (.slice (some ⟨WA.heap.size, 0, none⟩) 1 1) 1 [.string BS] rfl (src_one WA _ _) (by simp) (by simp [Value.oneCell']) (by omega) (by omega) ?_
        intro ga2 cap2 WB rB fB oB
        have FB : Fr [] w8 WB := (HFA.out.trans fb).step fB (fun i hi => .inr (HY9.out i (by simpa using hi)))
        refine hK _ _ ?_
        clear hK K fb fB oB HFA HRA HY9
        have HJB := Lib.hid (HJ8.out.same FB); have HWB := Lib.hid (HW8.out.same FB); have HWFB := Lib.hid (HWF8.out.same FB)
        have hlong : (fl ++ [BS]).any longB = true := by
          rw [List.any_append]
          simp only [List.any_cons, List.any_nil, Bool.or_false, Bool.or_eq_true, longB, decide_eq_true_eq]
          right; rw [HBS.out]; omega
        have hlen2 : (fl ++ [BS]).length = fl.length + 1 := by simp
        have AP := app_u HJB.out HR.out (fl ++ [BS]) ga2 cap2 (by have := sl_of_row rB; rw [hlen2, List.map_append]; exact this) (by rw [enc_size, HDm.out]; exact HS6.out) (by omega) (fun h => by rw [hlong] at h; cases h) (by rw [HC.out.pend]; simp)
        rw [apps_long _ _ _ _ hlong, hlen2] at AP
        have HAP := Lib.hid AP
        clear AP hlong hlen2 rB FB HJ8 HW8 HWF8
        go_wp2_with fail
        refine HAP.out.mono ?_
        rintro e wC ⟨he, vrC, fpC, jsC, uC⟩
        have he' : e = .returned (.int .i64 100) := he
        subst he'
        have HJC : Hid (JS w wC db fpC D1 [⟨jb, vrC, tp0.adds fl, false⟩]) := Lib.hid jsC
        have HWC := Lib.hid (HWB.out.upd HWFB.out uC); have HWFC := Lib.hid (HWFB.out.upd uC)
        clear he jsC uC HAP HJB HWB HWFB
        have AP := app_u HJC.out HR.out [] none 0 (Sl.nil _) (by rw [enc_size, HDm.out]; exact HS6.out) (by simp) (fun _ => by simp [encAll]) (by rw [HC.out.pend]; simp)
        rw [apps_none _ _ (by rw [HDm.out]; exact HS6.out), List.length_nil] at AP
        have HAP := Lib.hid AP
        clear AP
        go_wp2_with fail
        refine HAP.out.mono ?_
        rintro e wD ⟨he, vrD, fpD, jsD, uD⟩
        have he' : e = .returned (.int .i64 0) := he
        subst he'
        have HJD : Hid (JS w wD db fpD D1 [⟨jb, vrD, tp0.adds fl, false⟩]) := Lib.hid jsD
        have HWD := Lib.hid (HWC.out.upd HWFC.out uD); have HWFD := Lib.hid (HWFC.out.upd uD)
        clear he jsD uD HAP HJC HWC HWFC
        go_wp2_with fail
        refine (cut_dk db fpD D1 0 wD HJD.out.disk (by omega)).mono ?_
        rintro e wE ⟨rfl, hdE, fE⟩
        have jsE : JS w wE db fpD (D1.cutD 0) [⟨jb, vrD, tp0.adds fl, false⟩] := HJD.out.upd hdE ⟨fE, fun _ h => .inl h⟩
        have uE : Upd (jsB jb vrD fpD) (jsB jb vrD fpD) wD wE := ⟨fE.mono (by simp +contextual [jsB]), fun _ h => .inl h⟩
        have HWE := Lib.hid (HWD.out.upd HWFD.out uE); have HWFE := Lib.hid (HWFD.out.upd uE)
        have hcd : D1.cutD 0 = D1.cut 0 := by simp [Dk.cutD, HC.out.off]
        rw [hcd] at jsE
        have hoE : (D1.cut 0).off = true := rfl
        have hdlE : (D1.cut 0).dur.length = m := HDm.out
        have hpeE : (D1.cut 0).pend.length = 0 := by simp [Dk.cut, HC.out.pend]
        generalize D1.cut 0 = D2 at *
        have HJE := Lib.hid jsE
        have HOE : Shut (D2.off = true) := ⟨hoE⟩; have HDE : Shut (D2.dur.length = m) := ⟨hdlE⟩; have HPE : Shut (D2.pend.length = 0) := ⟨hpeE⟩
        clear hdE fE jsE uE hcd hoE hdlE hpeE HJD HWD HWFD
        go_wp2_with fail
        have fX := Fr.alloc [] wE (.cells #[.string ⟨#[120]⟩] 9)
        have slX := sl_vals (heap_alloc_new wE (.cells #[.string ⟨#[120]⟩] 9)) (n := 1) rfl (by decide)
        have HJF := Lib.hid (HJE.out.same fX); have HWF := Lib.hid (HWE.out.same fX); have HWFF := Lib.hid (HWFE.out.same fX)
        clear fX HJE HWE HWFE
        by_cases hsm : (m : Int) - encN fl < 35
        · have AP := app_u HJF.out HR.out xL (some ⟨wE.heap.size, 0, none⟩) 1 slX (by rw [enc_size, HDE.out]; exact HS6.out) (by decide) (fun _ => by rw [enc_size, xL_n]; omega) (by rw [HPE.out]; omega)
          rw [apps_off_small D2 _ (by rw [HDE.out]; exact hsm), show xL.length = 1 from rfl] at AP
          have HAP := Lib.hid AP
          have hb5 : decide ((m : Int) - (encN fl : Int) < 35) = true := by simpa using hsm
          clear AP hsm
          refine HAP.out.mono ?_
          rintro e wG ⟨he, vrG, fpG, jsG, uG⟩
          have he' : e = .returned (.int .i64 101) := he
          subst he'
          have HJG : Hid (JS w wG db fpG D2 [⟨jb, vrG, tp0.adds fl, false⟩]) := Lib.hid jsG
          have HWG := Lib.hid (HWF.out.upd HWFF.out uG); have HWFG := Lib.hid (HWFF.out.upd uG)
          clear he jsG uG HAP HJF HWF HWFF
          go_wp2_with fail
          refine (room_s (L := fl) HJG.out (List.mem_singleton.2 rfl) (by have := HS6.out; omega)).mono ?_
          rintro e wH ⟨rfl, fH⟩
          rw [HDE.out]
          have HJH := Lib.hid (HJG.out.same fH); have HWH := Lib.hid (HWG.out.same fH); have HWFH := Lib.hid (HWFG.out.same fH)
          clear fH HJG HWG HWFG
          have AP := app_u HJH.out HR.out [] none 0 (Sl.nil _) (by rw [enc_size, HDE.out]; exact HS6.out) (by simp) (fun _ => by simp [encAll]) (by rw [HPE.out]; omega)
          rw [apps_none _ _ (by rw [HDE.out]; exact HS6.out), List.length_nil] at AP
          have HAP := Lib.hid AP
          clear AP
          go_wp2_with fail
          refine HAP.out.mono ?_
          rintro e wI ⟨he, vrI, fpI, jsI, uI⟩
          have he' : e = .returned (.int .i64 0) := he
          subst he'
          have HJI : Hid (JS w wI db fpI D2 [⟨jb, vrI, tp0.adds fl, false⟩]) := Lib.hid jsI
          have HWI := Lib.hid (HWH.out.upd HWFH.out uI)
          clear he jsI uI HAP HJH HWH HWFH
          go_wp2_with fail
          refine (rec_s (L := fl) HJI.out (List.mem_singleton.2 rfl) hfl1).mono ?_
          rintro e wK ⟨ra, rc, rfl, sK, fK⟩
          have HJK := Lib.hid (HJI.out.same fK); have HWK := Lib.hid (HWI.out.same fK); have HSK := Lib.hid sK
          clear sK fK HJI HWI
          go_wp2_with fail
          refine (same10_c ra wa rc wc fl fl wK HSK.out HWK.out).mono ?_
          rintro e wL ⟨rfl, fL⟩
          rw [decide_eq_true (rfl : fl = fl)]
          have HFL := Lib.hid (HJK.out.same fL).fr
          clear fL HJK HWK HSK
          go_wp2_with fail
          refine (app_nil _ _).mono ?_
          rintro e wL' ⟨rfl, rfl⟩
          go_wp2_with fail
          refine (records_nil _).mono ?_
          rintro e wL' ⟨rfl, rfl⟩
          go_wp2_with fail
          refine (room_nil _).mono ?_
          rintro e wL' ⟨rfl, rfl⟩
          go_wp2_with fail
          go_ret
          exact ⟨rfl, HFL.out⟩
        · have AP := app_u HJF.out HR.out xL (some ⟨wE.heap.size, 0, none⟩) 1 slX (by rw [enc_size, HDE.out]; exact HS6.out) (by decide) (fun _ => by rw [enc_size, xL_n]; omega) (by rw [HPE.out]; omega)
          rw [apps_off D2 _ HOE.out (by rw [HDE.out]; exact hsm), show xL.length = 1 from rfl] at AP
          have HAP := Lib.hid AP
          have hb5 : decide ((m : Int) - (encN fl : Int) < 35) = false := by simpa using hsm
          clear AP hsm
          refine HAP.out.mono ?_
          rintro e wG ⟨he, vrG, fpG, jsG, uG⟩
          have he' : e = .returned (.int .i64 91) := he
          subst he'
          have HJG : Hid (JS w wG db fpG D2 [⟨jb, vrG, tp0.adds fl, true⟩]) := Lib.hid jsG
          have HWG := Lib.hid (HWF.out.upd HWFF.out uG); have HWFG := Lib.hid (HWFF.out.upd uG)
          clear he jsG uG HAP HJF HWF HWFF
          go_wp2_with fail
          refine (room_s (L := fl) HJG.out (List.mem_singleton.2 rfl) (by have := HS6.out; omega)).mono ?_
          rintro e wH ⟨rfl, fH⟩
          rw [HDE.out]
          have HJH := Lib.hid (HJG.out.same fH); have HWH := Lib.hid (HWG.out.same fH); have HWFH := Lib.hid (HWFG.out.same fH)
          clear fH HJG HWG HWFG
          have AP := app_u HJH.out HR.out [] none 0 (Sl.nil _) (by rw [enc_size, HDE.out]; exact HS6.out) (by simp) (fun _ => by simp [encAll]) (by rw [HPE.out]; omega)
          rw [apps_broken, List.length_nil] at AP
          have HAP := Lib.hid AP
          clear AP
          go_wp2_with fail
          refine HAP.out.mono ?_
          rintro e wI ⟨he, vrI, fpI, jsI, uI⟩
          have he' : e = .returned (.int .i64 100) := he
          subst he'
          have HJI : Hid (JS w wI db fpI D2 [⟨jb, vrI, tp0.adds fl, true⟩]) := Lib.hid jsI
          have HWI := Lib.hid (HWH.out.upd HWFH.out uI)
          clear he jsI uI HAP HJH HWH HWFH
          go_wp2_with fail
          refine (rec_s (L := fl) HJI.out (List.mem_singleton.2 rfl) hfl1).mono ?_
          rintro e wK ⟨ra, rc, rfl, sK, fK⟩
          have HJK := Lib.hid (HJI.out.same fK); have HWK := Lib.hid (HWI.out.same fK); have HSK := Lib.hid sK
          clear sK fK HJI HWI
          go_wp2_with fail
          refine (same10_c ra wa rc wc fl fl wK HSK.out HWK.out).mono ?_
          rintro e wL ⟨rfl, fL⟩
          rw [decide_eq_true (rfl : fl = fl)]
          have HFL := Lib.hid (HJK.out.same fL).fr
          clear fL HJK HWK HSK
          go_wp2_with fail
          refine (app_nil _ _).mono ?_
          rintro e wL' ⟨rfl, rfl⟩
          go_wp2_with fail
          refine (records_nil _).mono ?_
          rintro e wL' ⟨rfl, rfl⟩
          go_wp2_with fail
          refine (room_nil _).mono ?_
          rintro e wL' ⟨rfl, rfl⟩
          go_wp2_with fail
          go_ret
          exact ⟨rfl, HFL.out⟩
      · have AP := app_u HJ5.out HR.out fl va vc (sl_of_row HS5.out) (by simp [encAll]) (by omega) (fun _ => by rw [enc_size]; omega) (by simp [Dk.new])
        rw [clean_full HC0.out fl HLG.out (by rw [enc_size, List.nil_append, HD0.out]; omega)] at AP
        have HAP := Lib.hid AP
        have hb1 : decide ((encN fl : Int) ≤ (m : Int)) = false := by simpa using hfit
        have hgt : m < encN fl := by omega
        have HS6 : Hid (encN [] ≤ m) := Lib.hid (Nat.zero_le _)
        clear AP
        go_wp2_with fail
        refine HAP.out.mono ?_
        rintro e w6 ⟨he, vr6, fp6, js6, u6⟩
        have he' : e = .returned (.int .i64 101) := he
        subst he'
        have HSl := Lib.hid (row_fr HS5.out u6.fr (fun g hg => (HV5.out g hg).1)); have HV6 := Lib.hid (HV5.out.upd u6)
        have HJ6 : Hid (JS w w6 db fp6 (Dk.new m) [⟨jb, vr6, tp0.adds [], false⟩]) := Lib.hid js6
        clear he js6 u6 HAP HJ5 HS5 HV5
        clear js3
        generalize Dk.new m = D1 at *
        have HC := HC0; have HDm := HD0
        go_wp2_with fail
        refine (HSz.out _).mono ?_
        rintro e w6' ⟨rfl, rfl⟩
        go_wp2_with fail
        refine (room_s (L := []) HJ6.out (List.mem_singleton.2 rfl) (by have := HS6.out; omega)).mono ?_
        rintro e w7 ⟨rfl, f7⟩
        rw [HDm.out, show (m : Int) - (encN [] : Nat) = m by simp [encN]]
        have HJ7 := Lib.hid (HJ6.out.same f7); have HS7 := Lib.hid (row_fr HSl.out f7 (by simp)); have HV7 := Lib.hid (HV6.out.same f7)
        clear f7 HJ6 HSl HV6
        go_wp2_with fail
        refine (HSz.out _).mono ?_
        rintro e w7' ⟨rfl, rfl⟩
        go_wp2_with fail
        have hfl1 : ([] : List ByteArray).length ≤ 1000000 := by simp
        refine (rec_u (L := []) HJ7.out (List.mem_singleton.2 rfl) hfl1).mono ?_
        rintro e w8 ⟨wa, wc, rfl, s8, f8, y8⟩
        have HW8 := Lib.hid s8; have HWF8 := Lib.hid (far_new HJ7.out y8)
        have HJ8 := Lib.hid (HJ7.out.same f8); have HS8 := Lib.hid (row_fr HS7.out f8 (by simp)); have HV8 := Lib.hid (HV7.out.same f8)
        clear s8 f8 y8 HJ7 HS7 HV7
        go_wp2_with (first | ((with_reducible refine wpList_of_wp (o := ⟨some 108, _, _, _, _, _⟩) rfl (fun K hK => ?_)); apply stopD; case _other => exact trivial))
        (refine stopD ?_ ?_; rotate_left; exact trivial)
        have fa := Fr.alloc [] w8 (.cells #[] 9)
        have row0 : (w8.alloc (.cells #[] 9)).ownsRow 0 9 1 (.slice (some ⟨w8.heap.size, 0, none⟩) 0 0) 0 [] := ⟨rfl, .inr ⟨w8.heap.size, 0, #[], rfl, Nat.zero_le _, heap_alloc_new _ _, Nat.le_refl _, Nat.zero_le _, rfl, rfl⟩⟩
        refine wp_append_src (.tmp 106) (.tmp 107) 22 9 (.string ⟨#[]⟩) 1 16 rfl Tryd.underlying22 infoStr rfl (by decide) (.slice (some ⟨w8.heap.size, 0, none⟩) 0 0) 0 [] rfl row0 (.slice va fl.length vc) fl.length (fl.map Value.string) rfl (srcAt_of_row (row_fr HS8.out fa (by simp))) (by simp) (by simp [Value.oneCell']) (by omega) (by omega) ?_
        intro ga1 cap1 W9 r9 f9 o9
        simp only [Nat.zero_add, List.nil_append] at r9 o9 ⊢
        have F9 : Fr [] w8 W9 := fa.step f9 (fun i hi => .inr (by simp [Value.ownBlock] at hi; omega))
        have y9 : ∀ g, (Value.slice ga1 fl.length cap1).ownBlock = some g → w8.heap.size ≤ g := fun g hg => by
          rcases o9 with h | h
          · rw [hg] at h; simp [Value.ownBlock] at h; omega
          · rw [hg] at h; simp at h; omega
        refine hK _ _ ?_
        clear hK K row0 fa f9 o9
        have HR9 := Lib.hid r9; have HY9 := Lib.hid y9; have HF9 := Lib.hid F9
        clear r9 y9 F9 HS8
        go_wp2_with fail
        refine (HPk.out _).mono ?_
        rintro e W9' ⟨rfl, rfl⟩
        go_wp2_with (first | ((with_reducible refine wpList_of_wp (o := ⟨some 113, _, _, _, _, _⟩) rfl (fun K hK => ?_)); apply stopD; case _other => exact trivial))
        (refine stopD ?_ ?_; rotate_left; exact trivial)
        have fA := Fr.alloc [] W9 (.cells (byteCells zs).toArray 5)
        have sb := sl_bytes (heap_alloc_new W9 (.cells (byteCells zs).toArray 5)) HZL.out (by omega)
        refine wp_sl_str (.tmp 112) rfl _ (65537 + p) (65537 + p) zs rfl sb (by omega) HZL.out ?_
        refine hK _ _ ?_
        clear hK K sb
        have hBS : (⟨zs.toArray⟩ : ByteArray).size = 65537 + p := HZL.out
        have HBS : Shut ((⟨zs.toArray⟩ : ByteArray).size = 65537 + p) := ⟨hBS⟩
        clear hBS
        generalize (⟨zs.toArray⟩ : ByteArray) = BS at *
        generalize World.alloc W9 _ = WA at *
        have HRA := Lib.hid (row_fr HR9.out fA (by simp)); have HFA := Lib.hid (HF9.out.trans fA)
        clear fA HR9 HF9
        go_wp2_with (first | ((with_reducible refine wpList_of_wp (o := ⟨some 115, _, _, _, _, _⟩) rfl (fun K hK => ?_)); apply stopD; case _other => exact trivial))
        (refine stopD ?_ ?_; rotate_left; exact trivial)
        have fb := Fr.alloc [] WA (.cells #[.string BS] 9)
        refine wp_append_src (.tmp 108) (.tmp 114) 22 9 (.string ⟨#[]⟩) 1 16 rfl Tryd.underlying22 infoStr rfl (by decide) (.slice ga1 fl.length cap1) fl.length (fl.map Value.string) rfl (row_fr HRA.out fb (by simp)) (.slice (some ⟨WA.heap.size, 0, none⟩) 1 1) 1 [.string BS] rfl (src_one WA _ _) (by simp) (by simp [Value.oneCell']) (by omega) (by omega) ?_
        intro ga2 cap2 WB rB fB oB
        have FB : Fr [] w8 WB := (HFA.out.trans fb).step fB (fun i hi => .inr (HY9.out i (by simpa using hi)))
        refine hK _ _ ?_
        clear hK K fb fB oB HFA HRA HY9
        have HJB := Lib.hid (HJ8.out.same FB); have HWB := Lib.hid (HW8.out.same FB); have HWFB := Lib.hid (HWF8.out.same FB)
        have hlong : (fl ++ [BS]).any longB = true := by
          rw [List.any_append]
          simp only [List.any_cons, List.any_nil, Bool.or_false, Bool.or_eq_true, longB, decide_eq_true_eq]
          right; rw [HBS.out]; omega
        have hlen2 : (fl ++ [BS]).length = fl.length + 1 := by simp
        have AP := app_u HJB.out HR.out (fl ++ [BS]) ga2 cap2 (by have := sl_of_row rB; rw [hlen2, List.map_append]; exact this) (by rw [enc_size, HDm.out]; exact HS6.out) (by omega) (fun h => by rw [hlong] at h; cases h) (by rw [HC.out.pend]; simp)
        rw [apps_long _ _ _ _ hlong, hlen2] at AP
        have HAP := Lib.hid AP
        clear AP hlong hlen2 rB FB HJ8 HW8 HWF8
        go_wp2_with fail
        refine HAP.out.mono ?_
        rintro e wC ⟨he, vrC, fpC, jsC, uC⟩
        have he' : e = .returned (.int .i64 100) := he
        subst he'
        have HJC : Hid (JS w wC db fpC D1 [⟨jb, vrC, tp0.adds [], false⟩]) := Lib.hid jsC
        have HWC := Lib.hid (HWB.out.upd HWFB.out uC); have HWFC := Lib.hid (HWFB.out.upd uC)
        clear he jsC uC HAP HJB HWB HWFB
        have AP := app_u HJC.out HR.out [] none 0 (Sl.nil _) (by rw [enc_size, HDm.out]; exact HS6.out) (by simp) (fun _ => by simp [encAll]) (by rw [HC.out.pend]; simp)
        rw [apps_none _ _ (by rw [HDm.out]; exact HS6.out), List.length_nil] at AP
        have HAP := Lib.hid AP
        clear AP
        go_wp2_with fail
        refine HAP.out.mono ?_
        rintro e wD ⟨he, vrD, fpD, jsD, uD⟩
        have he' : e = .returned (.int .i64 0) := he
        subst he'
        have HJD : Hid (JS w wD db fpD D1 [⟨jb, vrD, tp0.adds [], false⟩]) := Lib.hid jsD
        have HWD := Lib.hid (HWC.out.upd HWFC.out uD); have HWFD := Lib.hid (HWFC.out.upd uD)
        clear he jsD uD HAP HJC HWC HWFC
        go_wp2_with fail
        refine (cut_dk db fpD D1 0 wD HJD.out.disk (by omega)).mono ?_
        rintro e wE ⟨rfl, hdE, fE⟩
        have jsE : JS w wE db fpD (D1.cutD 0) [⟨jb, vrD, tp0.adds [], false⟩] := HJD.out.upd hdE ⟨fE, fun _ h => .inl h⟩
        have uE : Upd (jsB jb vrD fpD) (jsB jb vrD fpD) wD wE := ⟨fE.mono (by simp +contextual [jsB]), fun _ h => .inl h⟩
        have HWE := Lib.hid (HWD.out.upd HWFD.out uE); have HWFE := Lib.hid (HWFD.out.upd uE)
        have hcd : D1.cutD 0 = D1.cut 0 := by simp [Dk.cutD, HC.out.off]
        rw [hcd] at jsE
        have hoE : (D1.cut 0).off = true := rfl
        have hdlE : (D1.cut 0).dur.length = m := HDm.out
        have hpeE : (D1.cut 0).pend.length = 0 := by simp [Dk.cut, HC.out.pend]
        generalize D1.cut 0 = D2 at *
        have HJE := Lib.hid jsE
        have HOE : Shut (D2.off = true) := ⟨hoE⟩; have HDE : Shut (D2.dur.length = m) := ⟨hdlE⟩; have HPE : Shut (D2.pend.length = 0) := ⟨hpeE⟩
        clear hdE fE jsE uE hcd hoE hdlE hpeE HJD HWD HWFD
        go_wp2_with fail
        have fX := Fr.alloc [] wE (.cells #[.string ⟨#[120]⟩] 9)
        have slX := sl_vals (heap_alloc_new wE (.cells #[.string ⟨#[120]⟩] 9)) (n := 1) rfl (by decide)
        have HJF := Lib.hid (HJE.out.same fX); have HWF := Lib.hid (HWE.out.same fX); have HWFF := Lib.hid (HWFE.out.same fX)
        clear fX HJE HWE HWFE
        by_cases hsm : (m : Int) - encN [] < 35
        · have AP := app_u HJF.out HR.out xL (some ⟨wE.heap.size, 0, none⟩) 1 slX (by rw [enc_size, HDE.out]; exact HS6.out) (by decide) (fun _ => by rw [enc_size, xL_n]; omega) (by rw [HPE.out]; omega)
          rw [apps_off_small D2 _ (by rw [HDE.out]; exact hsm), show xL.length = 1 from rfl] at AP
          have HAP := Lib.hid AP
          have hb5 : decide ((m : Int) - (encN [] : Int) < 35) = true := by simpa using hsm
          clear AP hsm
          refine HAP.out.mono ?_
          rintro e wG ⟨he, vrG, fpG, jsG, uG⟩
          have he' : e = .returned (.int .i64 101) := he
          subst he'
          have HJG : Hid (JS w wG db fpG D2 [⟨jb, vrG, tp0.adds [], false⟩]) := Lib.hid jsG
          have HWG := Lib.hid (HWF.out.upd HWFF.out uG); have HWFG := Lib.hid (HWFF.out.upd uG)
          clear he jsG uG HAP HJF HWF HWFF
          go_wp2_with fail
          refine (room_s (L := []) HJG.out (List.mem_singleton.2 rfl) (by have := HS6.out; omega)).mono ?_
          rintro e wH ⟨rfl, fH⟩
          rw [HDE.out]
          have HJH := Lib.hid (HJG.out.same fH); have HWH := Lib.hid (HWG.out.same fH); have HWFH := Lib.hid (HWFG.out.same fH)
          clear fH HJG HWG HWFG
          have AP := app_u HJH.out HR.out [] none 0 (Sl.nil _) (by rw [enc_size, HDE.out]; exact HS6.out) (by simp) (fun _ => by simp [encAll]) (by rw [HPE.out]; omega)
          rw [apps_none _ _ (by rw [HDE.out]; exact HS6.out), List.length_nil] at AP
          have HAP := Lib.hid AP
          clear AP
          go_wp2_with fail
          refine HAP.out.mono ?_
          rintro e wI ⟨he, vrI, fpI, jsI, uI⟩
          have he' : e = .returned (.int .i64 0) := he
          subst he'
          have HJI : Hid (JS w wI db fpI D2 [⟨jb, vrI, tp0.adds [], false⟩]) := Lib.hid jsI
          have HWI := Lib.hid (HWH.out.upd HWFH.out uI)
          clear he jsI uI HAP HJH HWH HWFH
          go_wp2_with fail
          refine (rec_s (L := []) HJI.out (List.mem_singleton.2 rfl) hfl1).mono ?_
          rintro e wK ⟨ra, rc, rfl, sK, fK⟩
          have HJK := Lib.hid (HJI.out.same fK); have HWK := Lib.hid (HWI.out.same fK); have HSK := Lib.hid sK
          clear sK fK HJI HWI
          go_wp2_with fail
          refine (same10_c ra wa rc wc [] [] wK HSK.out HWK.out).mono ?_
          rintro e wL ⟨rfl, fL⟩
          rw [decide_eq_true (rfl : ([] : List ByteArray) = [])]
          have HFL := Lib.hid (HJK.out.same fL).fr
          clear fL HJK HWK HSK
          go_wp2_with fail
          refine (app_nil _ _).mono ?_
          rintro e wL' ⟨rfl, rfl⟩
          go_wp2_with fail
          refine (records_nil _).mono ?_
          rintro e wL' ⟨rfl, rfl⟩
          go_wp2_with fail
          refine (room_nil _).mono ?_
          rintro e wL' ⟨rfl, rfl⟩
          go_wp2_with fail
          go_ret
          exact ⟨rfl, HFL.out⟩
        · have AP := app_u HJF.out HR.out xL (some ⟨wE.heap.size, 0, none⟩) 1 slX (by rw [enc_size, HDE.out]; exact HS6.out) (by decide) (fun _ => by rw [enc_size, xL_n]; omega) (by rw [HPE.out]; omega)
          rw [apps_off D2 _ HOE.out (by rw [HDE.out]; exact hsm), show xL.length = 1 from rfl] at AP
          have HAP := Lib.hid AP
          have hb5 : decide ((m : Int) - (encN [] : Int) < 35) = false := by simpa using hsm
          clear AP hsm
          refine HAP.out.mono ?_
          rintro e wG ⟨he, vrG, fpG, jsG, uG⟩
          have he' : e = .returned (.int .i64 91) := he
          subst he'
          have HJG : Hid (JS w wG db fpG D2 [⟨jb, vrG, tp0.adds [], true⟩]) := Lib.hid jsG
          have HWG := Lib.hid (HWF.out.upd HWFF.out uG); have HWFG := Lib.hid (HWFF.out.upd uG)
          clear he jsG uG HAP HJF HWF HWFF
          go_wp2_with fail
          refine (room_s (L := []) HJG.out (List.mem_singleton.2 rfl) (by have := HS6.out; omega)).mono ?_
          rintro e wH ⟨rfl, fH⟩
          rw [HDE.out]
          have HJH := Lib.hid (HJG.out.same fH); have HWH := Lib.hid (HWG.out.same fH); have HWFH := Lib.hid (HWFG.out.same fH)
          clear fH HJG HWG HWFG
          have AP := app_u HJH.out HR.out [] none 0 (Sl.nil _) (by rw [enc_size, HDE.out]; exact HS6.out) (by simp) (fun _ => by simp [encAll]) (by rw [HPE.out]; omega)
          rw [apps_broken, List.length_nil] at AP
          have HAP := Lib.hid AP
          clear AP
          go_wp2_with fail
          refine HAP.out.mono ?_
          rintro e wI ⟨he, vrI, fpI, jsI, uI⟩
          have he' : e = .returned (.int .i64 100) := he
          subst he'
          have HJI : Hid (JS w wI db fpI D2 [⟨jb, vrI, tp0.adds [], true⟩]) := Lib.hid jsI
          have HWI := Lib.hid (HWH.out.upd HWFH.out uI)
          clear he jsI uI HAP HJH HWH HWFH
          go_wp2_with fail
          refine (rec_s (L := []) HJI.out (List.mem_singleton.2 rfl) hfl1).mono ?_
          rintro e wK ⟨ra, rc, rfl, sK, fK⟩
          have HJK := Lib.hid (HJI.out.same fK); have HWK := Lib.hid (HWI.out.same fK); have HSK := Lib.hid sK
          clear sK fK HJI HWI
          go_wp2_with fail
          refine (same10_c ra wa rc wc [] [] wK HSK.out HWK.out).mono ?_
          rintro e wL ⟨rfl, fL⟩
          rw [decide_eq_true (rfl : ([] : List ByteArray) = [])]
          have HFL := Lib.hid (HJK.out.same fL).fr
          clear fL HJK HWK HSK
          go_wp2_with fail
          refine (app_nil _ _).mono ?_
          rintro e wL' ⟨rfl, rfl⟩
          go_wp2_with fail
          refine (records_nil _).mono ?_
          rintro e wL' ⟨rfl, rfl⟩
          go_wp2_with fail
          refine (room_nil _).mono ?_
          rintro e wL' ⟨rfl, rfl⟩
          go_wp2_with fail
          go_ret
          exact ⟨rfl, HFL.out⟩

end Go.Proofs.YtklmefkbkphceaaDoor
