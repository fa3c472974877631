/-
  The journal's laws: JournalSurvives, from readable arguments.
-/
import Derived.Test.YtfmlaepgnfphiaaGreatDoorQLP
namespace Go.Proofs.YtfmlaepgnfphiaaGreatDoor
open Go.RowKit Go.Lib

set_option maxRecDepth 100000 in
set_option maxHeartbeats 8000000 in
theorem survives_c (n cut torn : Int) (a0 : Addr) (a : Option Addr) (cap : Nat) (xs : List (Value × List ByteArray)) (ka : Option Addr) (kc : Nat) (keep : List Int) (w : World) (hn : -9223372036854775808 ≤ n ∧ n ≤ 9223372036854775807) (hcut : -9223372036854775808 ≤ cut ∧ cut ≤ 9223372036854775807)
    (ht : -9223372036854775808 ≤ torn ∧ torn ≤ 9223372036854775807) (hs : Sl w (.slice a xs.length cap) xs.length (xs.map (·.1))) (hx : ∀ x, x ∈ xs → GOk w x.1 x.2) (hk : RowI w ka kc keep) (hR : RndAt w) (hA : DmgAt w a0) :
    Calls Tryz.prog 3 #[.int .i64 n, .slice a xs.length cap, .int .i64 cut, .slice ka keep.length kc, .int .i64 torn] w fun e w' => e = .returned (.bool true) ∧ Fr [] w w' := by
  have hlen := hs.len
  have HSa := Lib.hid (sane10_c a0 w hR hA)
  have HSz := Lib.hid fun w => size10_c n w hn
  have HPk := Lib.hid fun w => pick10_c cut 3 w hcut (by omega) (by omega)
  have hpb := pickJ_bound cut 3 (by omega)
  generalize pickJ cut 3 = pc at *
  obtain ⟨p, rfl⟩ := Int.eq_ofNat_of_zero_le hpb.1
  have hp3 : p < 3 := by omega
  have hmb := szJ_bound n
  generalize szJ n = m at *
  obtain ⟨mK, hmK⟩ : ∃ q, min keep.length 20 = q := ⟨_, rfl⟩
  have hkl := hk.le
  have hkm := hk.max
  have hK1 : mK ≤ keep.length := by omega
  have hK2 : mK ≤ kc := by omega
  have hiK : min (keep.length : Int) 20 = (mK : Int) := by omega
  have hK20 : mK ≤ 20 := by omega
  have HKl : Shut ((keep.take mK).length = mK) := ⟨by simp; omega⟩
  have HK := Lib.hid (hk.take mK hK1)
  clear hk hmK hpb
  generalize keep.take mK = kp at *
  generalize keep.length = kl at *
  have HS := Lib.hid hs; have HX := Lib.hid hx; have HR := Lib.hid hR; have HA := Lib.hid hA
  clear hs hx hR hA
  go_enter Tryz.func3, Tryz.ntmps3
  go_wp2_with fail
  refine HSa.out.mono ?_
  rintro e w1 ⟨rfl, f1⟩
  have HF1 := Lib.hid f1
  clear f1 HSa
  go_wp2_with fail
  refine (HSz.out _).mono ?_
  rintro e w1' ⟨rfl, rfl⟩
  go_wp2_with fail
  refine (new_s m w w1 HF1.out (by omega) (by omega)).mono ?_
  rintro e w2 ⟨db, fp, rfl, js2⟩
  have C0 := clean_new m
  have hd0 : (Dk.new m).dur.length = m := by simp [Dk.new]
  have HOp := open_s js2 HR.out HA.out (by simp [Dk.new])
  rw [clean_open C0] at HOp
  have HP := Lib.hid HOp
  have HC0 := Lib.hid C0; have HD0 := Lib.hid hd0
  clear js2 HOp C0 hd0 HF1
  go_wp2_with fail
  refine HP.out.mono ?_
  rintro e w3 ⟨jb, vr, fp3, he, js3⟩
  have he' : e = .returned (.tuple #[.pointer (some ⟨jb, 0, none⟩), .int .i64 0]) := he
  subst he'
  have js3 : JS w w3 db fp3 (Dk.new m) [⟨jb, vr, tp0.adds [], false⟩] := js3
  have HJ3 := Lib.hid js3
  clear he js3 HP
  go_wp2_with fail
  go_loopw [16, 17, 18] (fun wv tv iv wr => ∃ (k : Nat) (fp' : List Nat) (D : Dk) (vr' : Value) (L A B : List ByteArray) (br : Bool), iv = .int .i64 k ∧ k ≤ xs.length ∧ k ≤ 8 ∧ Hid (JS w wr db fp' D [⟨jb, vr', tp0.adds L, br⟩]) ∧ Hid (SlF wr wv A (jsB jb vr' fp')) ∧ Hid (SlF wr tv B (jsB jb vr' fp')) ∧ Hid (SvP m (k < xs.length ∧ k < 8) D L br A B)) (fun _ _ iv _ => 8 - (RowKit.intOf iv).toNat)
  case atStart => exact ⟨0, fp3, _, vr, [], [], [], false, rfl, Nat.zero_le _, by omega, HJ3, Lib.hid (SlF.nil _ _), Lib.hid (SlF.nil _ _), Lib.hid ⟨HD0.out, HC0.out.any.hurt, Nat.zero_le _, Nat.zero_le _, fun _ => ⟨rfl, HC0.out, Nat.zero_le _⟩⟩⟩
  case round =>
    obtain ⟨k, fp', D, vr', L, A, B, br, rfl, hk, hk8, HJ, HW, HT, HP⟩ := hrel
    by_cases hlt : k < xs.length
    · by_cases hl8 : k < 8
      · obtain ⟨rfl, C, hLm⟩ := HP.out.up ⟨hlt, hl8⟩
        have HC := Lib.hid C
        have HDm := Lib.hid HP.out.len
        have hLl : L.length ≤ 1500 := by have := len_le_enc L; omega
        obtain ⟨b, off, rfl, hc⟩ := HS.out.at_ (by omega)
        obtain ⟨ga, gc, hg1, hg2, hg3⟩ := HX.out _ (List.getElem_mem hlt)
        have hck : w.cell? ⟨b, off + k, none⟩ = some (.slice ga (xs[k]).2.length gc) := by rw [← hg1]; exact hc k _ (by simp [hlt])
        have HFe := Lib.hid fun W (hf : Fr [] w W) => few10_c ga gc (xs[k]).2 W (hg2.same hf) hg3
        have HCk := Lib.hid hck
        clear hc hg1 hg2 hg3 hck C HP HW HT
        generalize (xs[k]).2 = l at *
        go_wp2_with fail
        refine (rec_r (L := L) HJ.out (List.mem_singleton.2 rfl) (by omega)).mono ?_
        rintro e w4 ⟨ra, rc, rfl, r4, f4, y4⟩
        have HW4 : Hid (SlF w4 (.slice ra L.length rc) L (jsB jb vr' fp')) := Lib.hid ⟨sl_of_row r4, far_new HJ.out y4⟩
        have HJ4 := Lib.hid (HJ.out.same f4); have HR4 := Lib.hid r4
        clear r4 f4 y4 HJ
        go_wp2_with fail
        have ck := HJ4.out.fr.cel HCk.out (by simp)
        refine reg_tree (Fr [] w4) 9 (.take 1 (.take 3 (.take 4 (.take 5 (.take 6 (.one 0 (.one 2 (.one 7 (.one 8 (.one 9 .nil)))))))))) (by kernel_rfl) (by kernel_rfl) (by kernel_rfl) rfl ?_
        have F0 : Fr [] w4 w4.drew := Fr.drew _ _
        generalize w4.drew = WC at F0 ⊢
        iterate 5 (refine tree_take (v := ?_) rfl rfl rfl F0 (fun w hS => ?_) ?_; rotate_left; (focus (have c2 := hS.cel ck (by simp); clear hS; go_simp; rfl)); simp only [List.setIfInBounds_toArray, List.set_cons_succ, List.set_cons_zero])
        clear ck
        refine tree_one rfl rfl (fun K hK => ?_)
        go_simp
        have fa := Fr.alloc [] WC (.cells #[] 9)
        have row0 : (WC.alloc (.cells #[] 9)).ownsRow 0 9 1 (.slice (some ⟨WC.heap.size, 0, none⟩) 0 0) 0 [] := ⟨rfl, .inr ⟨WC.heap.size, 0, #[], rfl, Nat.zero_le _, heap_alloc_new _ _, Nat.le_refl _, Nat.zero_le _, rfl, rfl⟩⟩
        have hyb := F0.size
        have F1 := F0.trans fa
        refine hK _ _ F1 ?_
        clear hK K
        generalize WC.alloc (.cells #[] 9) = WD at *
        generalize WC.heap.size = gb at *
        try simp only [Act.put, List.setIfInBounds_toArray, List.set_cons_succ, List.set_cons_zero]
        refine tree_one rfl rfl (fun K hK => ?_)
        refine wp_append_src (.tmp 49) (.tmp 50) 33 9 (.string ⟨#[]⟩) 1 16 rfl Tryz.underlying33 infoStr rfl (by decide) (.slice (some ⟨gb, 0, none⟩) 0 0) 0 [] rfl row0 (.slice ra L.length rc) L.length (L.map Value.string) rfl (srcAt_of_row (row_fr HR4.out F1 (by simp))) (by simp) (by simp [Value.oneCell']) (by omega) (by omega) ?_
        intro ga1 cap1 W5 r5 f5 o5
        simp only [Nat.zero_add, List.nil_append] at r5 o5 ⊢
        have F5 : Fr [] w4 W5 := F1.step f5 (fun i hi => .inr (by simp [Value.ownBlock] at hi; omega))
        have y5 : ∀ g, (Value.slice ga1 L.length cap1).ownBlock = some g → w4.heap.size ≤ g := fun g hg => by
          rcases o5 with h | h
          · rw [hg] at h; simp [Value.ownBlock] at h; omega
          · rw [hg] at h; have := F1.size; simp at h; omega
        refine hK _ _ F5 ?_
        clear hK K row0 fa f5 o5 F1 F0
        try simp only [Act.put, List.setIfInBounds_toArray]
        refine tree_one rfl rfl (fun K hK => ?_)
        go_simp
        refine (HFe.out W5 (HJ4.out.fr.trans F5)).mono ?_
        rintro e W6 ⟨v6, rfl, r6, y6, f6⟩
        refine hK _ _ (F5.trans f6) ?_
        clear hK K
        have r5' := row_fr r5 f6 (by simp)
        have F6 := F5.trans f6
        clear r5 f6 F5
        try simp only [Act.put, List.setIfInBounds_toArray, List.set_cons_succ, List.set_cons_zero]
        have hfl := fewM_len l
        refine tree_one rfl rfl (fun K hK => ?_)
        refine wp_append_src (.tmp 51) (.tmp 56) 33 9 (.string ⟨#[]⟩) 1 16 rfl Tryz.underlying33 infoStr rfl (by decide) (.slice ga1 L.length cap1) L.length (L.map Value.string) rfl r5' v6 (fewM l).length ((fewM l).map Value.string) rfl (srcAt_of_row r6) (by simp) (by simp [Value.oneCell']) (by omega) (by omega) ?_
        intro ga2 cap2 W7 r7 f7 o7
        have F7 : Fr [] w4 W7 := F6.step f7 (fun i hi => .inr (y5 i (by simpa using hi)))
        have y7 : ∀ g, (Value.slice ga2 (L.length + (fewM l).length) cap2).ownBlock = some g → w4.heap.size ≤ g ∧ g < W7.heap.size := fun g hg => by
          refine ⟨?_, ownsRow_lt r7 hg⟩
          rcases o7 with h | h
          · exact y5 g (h ▸ hg)
          · rw [hg] at h; have := F6.size; simp at h; omega
        refine hK _ _ F7 ?_
        clear hK K f7 o7 y5 y6 r6 r5' F6
        have HT7 : Hid (SlF W7 (.slice ga2 (L ++ fewM l).length cap2) (L ++ fewM l) (jsB jb vr' fp')) := Lib.hid ⟨by rw [List.length_append, List.map_append]; exact sl_of_row r7, far_new HJ4.out (by rw [List.length_append]; exact y7)⟩
        have HJ7 := Lib.hid (HJ4.out.same F7); have HW7 := Lib.hid (HW4.out.same F7)
        clear r7 y7 F7 HJ4 HW4 HR4
        have hl2 : L.length + (fewM l).length = (L ++ fewM l).length := by simp
        rw [hl2]
        clear hl2
        generalize hT : L ++ fewM l = T at *
        have HTq : Shut (L ++ fewM l = T) := ⟨hT⟩
        clear hT
        try simp only [Act.put, List.setIfInBounds_toArray]
        refine tree_last rfl rfl (fun K hK => ?_)
        go_simp
        try go_upon
        try go_simp
        refine hK _ _ ?_
        clear hK K
        refine noPanicN ?_
        by_cases h1 : k + 1 = xs.length
        · have hb1 : ((k : Int) == (xs.length : Int) - 1) = true := by rw [beq_iff_eq]; omega
          go_wp2_with fail
          refine (HPk.out _).mono ?_
          rintro e w8' ⟨rfl, rfl⟩
          go_wp2_with fail
          refine (cut_s HJ7.out (1 + (p : Int)) (by omega)).mono ?_
          rintro e w8 ⟨rfl, js8, u8⟩
          have hcd : D.cutD (1 + (p : Int)) = D.cut (p + 1) := by
            have ho := HC.out.off
            simp only [Dk.cutD, ho, Bool.false_eq_true, if_false]
            rw [if_neg (by omega), show (1 + (p : Int)).toNat = p + 1 by omega]
          rw [hcd] at js8
          have hce : D.cutE (1 + (p : Int)) = 0 := by
            have ho := HC.out.off
            simp only [Dk.cutE, ho, Bool.false_eq_true, if_false]
            rw [if_neg (by omega)]
          have HC8 : Hid (CleanL (D.cut (p + 1)) L) := Lib.hid (HC.out.any.cut (p + 1) (by omega))
          have HD8 : Hid ((D.cut (p + 1)).dur.length = m) := Lib.hid HDm.out
          have HJ8 := Lib.hid js8; have HW8 := Lib.hid (HW7.out.upd (upd_jsB u8)); have HT8 := Lib.hid (HT7.out.upd (upd_jsB u8))
          clear hcd hce js8 u8 HJ7 HW7 HT7
          generalize D.cut (p + 1) = D8 at *

          have ck := HJ8.out.fr.cel HCk.out (by simp)
          go_wp2_with fail
          clear ck
          refine (HFe.out w8 HJ8.out.fr).mono ?_
          rintro e w9 ⟨v9, rfl, r9, y9, f9⟩
          have s9 := sl_of_row r9
          obtain ⟨va, vc, rfl⟩ := s9.val
          obtain ⟨n', L', br', D', e1, PW⟩ := append_pow HC8.out (by rw [HD8.out]; exact hLm) (fewM l) (few_long l)
          have AP := few_u (HJ8.out.same f9) HR.out l va vc s9 (by rw [HD8.out]; exact hLm) (by have := HC8.out.pend; simp only at this; rw [this]; simp)
          rw [e1] at AP
          have HAP := Lib.hid AP; have HPW := Lib.hid PW
          have HW9 := Lib.hid (HW8.out.same f9); have HT9 := Lib.hid (HT8.out.same f9)
          clear AP PW e1 r9 y9 s9 f9 HJ8 HW8 HT8
          generalize fewM l = F at *
          go_wp2_with fail
          refine HAP.out.mono ?_
          rintro e wA ⟨he, vrA, fpA, jsA, uA⟩
          have he' : e = .returned (.int .i64 n') := he
          subst he'
          have HJA : Hid (JS w wA db fpA D' [⟨jb, vrA, tp0.adds L', br'⟩]) := Lib.hid jsA
          have HWA := Lib.hid (HW9.out.upd uA); have HTA := Lib.hid (HT9.out.upd uA)
          clear he jsA uA HAP HW9 HT9
          have hlenA : D'.dur.length = m := by rw [HPW.out.len]; exact HD8.out
          have hfitA : encN L' ≤ m := by have := HPW.out.fit; rw [HD8.out] at this; exact this

          rcases HPW.out.way with ⟨rfl, rfl, rfl, CA⟩ | ⟨rfl, rfl, rfl, rfl⟩ | ⟨rfl, rfl, rfl, hoff, HU, hfit⟩
          · have HPn : Hid (SvP m (k + 1 < xs.length ∧ k + 1 < 8) D' T false T T) := Lib.hid (by
              have e : L ++ F = T := HTq.out
              rw [e] at CA hfitA
              exact ⟨hlenA, CA.hurt, hfitA, hfitA, fun h => absurd h (by omega)⟩)
            have HJB : Hid (JS w wA db fpA D' [⟨jb, vrA, tp0.adds T, false⟩]) := Lib.hid (by rw [← HTq.out]; exact HJA.out)
            clear HJA HWA HPW CA hlenA hfitA HC HC8 HD8
            go_wp2_with fail
            go_roundw
            case rel => exact ⟨k + 1, fpA, D', vrA, T, T, T, false, by go_num, hlt, by omega, HJB, HTA, HTA, HPn⟩
            case measure => simp [RowKit.intOf]; omega
          · have HPn : Hid (SvP m (k + 1 < xs.length ∧ k + 1 < 8) D' L' false L' L') := Lib.hid ⟨hlenA, HC8.out.hurt, hfitA, hfitA, fun h => absurd h (by omega)⟩
            clear HTA HPW hlenA hfitA HC HC8 HD8
            go_wp2_with fail
            go_roundw
            case rel => exact ⟨k + 1, fpA, D', vrA, L', L', L', false, by go_num, hlt, by omega, HJA, HWA, HWA, HPn⟩
            case measure => simp [RowKit.intOf]; omega

          · have HPn : Hid (SvP m (k + 1 < xs.length ∧ k + 1 < 8) D' L' true L' T) := Lib.hid (by
              have e : L' ++ F = T := HTq.out
              rw [e] at HU hfit
              exact ⟨hlenA, HU, hfitA, by rw [HD8.out] at hfit; exact hfit, fun h => absurd h (by omega)⟩)
            clear HPW hlenA hfitA HC HC8 HD8 HU hfit hoff
            go_wp2_with fail
            go_roundw
            case rel => exact ⟨k + 1, fpA, D', vrA, L', L', T, true, by go_num, hlt, by omega, HJA, HWA, HTA, HPn⟩
            case measure => simp [RowKit.intOf]; omega
        · have hb1 : ((k : Int) == (xs.length : Int) - 1) = false := by rw [beq_eq_false_iff_ne]; omega
          by_cases h7 : k = 7
          · subst h7
            go_wp2_with fail
            refine (HPk.out _).mono ?_
            rintro e w8' ⟨rfl, rfl⟩
            go_wp2_with fail
            refine (cut_s HJ7.out (1 + (p : Int)) (by omega)).mono ?_
            rintro e w8 ⟨rfl, js8, u8⟩
            have hcd : D.cutD (1 + (p : Int)) = D.cut (p + 1) := by
              have ho := HC.out.off
              simp only [Dk.cutD, ho, Bool.false_eq_true, if_false]
              rw [if_neg (by omega), show (1 + (p : Int)).toNat = p + 1 by omega]
            rw [hcd] at js8
            have hce : D.cutE (1 + (p : Int)) = 0 := by
              have ho := HC.out.off
              simp only [Dk.cutE, ho, Bool.false_eq_true, if_false]
              rw [if_neg (by omega)]
            have HC8 : Hid (CleanL (D.cut (p + 1)) L) := Lib.hid (HC.out.any.cut (p + 1) (by omega))
            have HD8 : Hid ((D.cut (p + 1)).dur.length = m) := Lib.hid HDm.out
            have HJ8 := Lib.hid js8; have HW8 := Lib.hid (HW7.out.upd (upd_jsB u8)); have HT8 := Lib.hid (HT7.out.upd (upd_jsB u8))
            clear hcd hce js8 u8 HJ7 HW7 HT7
            generalize D.cut (p + 1) = D8 at *

            have ck := HJ8.out.fr.cel HCk.out (by simp)
            go_wp2_with fail
            clear ck
            refine (HFe.out w8 HJ8.out.fr).mono ?_
            rintro e w9 ⟨v9, rfl, r9, y9, f9⟩
            have s9 := sl_of_row r9
            obtain ⟨va, vc, rfl⟩ := s9.val
            obtain ⟨n', L', br', D', e1, PW⟩ := append_pow HC8.out (by rw [HD8.out]; exact hLm) (fewM l) (few_long l)
            have AP := few_u (HJ8.out.same f9) HR.out l va vc s9 (by rw [HD8.out]; exact hLm) (by have := HC8.out.pend; simp only at this; rw [this]; simp)
            rw [e1] at AP
            have HAP := Lib.hid AP; have HPW := Lib.hid PW
            have HW9 := Lib.hid (HW8.out.same f9); have HT9 := Lib.hid (HT8.out.same f9)
            clear AP PW e1 r9 y9 s9 f9 HJ8 HW8 HT8
            generalize fewM l = F at *
            go_wp2_with fail
            refine HAP.out.mono ?_
            rintro e wA ⟨he, vrA, fpA, jsA, uA⟩
            have he' : e = .returned (.int .i64 n') := he
            subst he'
            have HJA : Hid (JS w wA db fpA D' [⟨jb, vrA, tp0.adds L', br'⟩]) := Lib.hid jsA
            have HWA := Lib.hid (HW9.out.upd uA); have HTA := Lib.hid (HT9.out.upd uA)
            clear he jsA uA HAP HW9 HT9
            have hlenA : D'.dur.length = m := by rw [HPW.out.len]; exact HD8.out
            have hfitA : encN L' ≤ m := by have := HPW.out.fit; rw [HD8.out] at this; exact this

            rcases HPW.out.way with ⟨rfl, rfl, rfl, CA⟩ | ⟨rfl, rfl, rfl, rfl⟩ | ⟨rfl, rfl, rfl, hoff, HU, hfit⟩
            · have HPn : Hid (SvP m (7 + 1 < xs.length ∧ 7 + 1 < 8) D' T false T T) := Lib.hid (by
                have e : L ++ F = T := HTq.out
                rw [e] at CA hfitA
                exact ⟨hlenA, CA.hurt, hfitA, hfitA, fun h => absurd h (by omega)⟩)
              have HJB : Hid (JS w wA db fpA D' [⟨jb, vrA, tp0.adds T, false⟩]) := Lib.hid (by rw [← HTq.out]; exact HJA.out)
              clear HJA HWA HPW CA hlenA hfitA HC HC8 HD8
              go_wp2_with fail
              go_roundw
              case rel => exact ⟨7 + 1, fpA, D', vrA, T, T, T, false, by go_num, hlt, by omega, HJB, HTA, HTA, HPn⟩
              case measure => simp [RowKit.intOf]
            · have HPn : Hid (SvP m (7 + 1 < xs.length ∧ 7 + 1 < 8) D' L' false L' L') := Lib.hid ⟨hlenA, HC8.out.hurt, hfitA, hfitA, fun h => absurd h (by omega)⟩
              clear HTA HPW hlenA hfitA HC HC8 HD8
              go_wp2_with fail
              go_roundw
              case rel => exact ⟨7 + 1, fpA, D', vrA, L', L', L', false, by go_num, hlt, by omega, HJA, HWA, HWA, HPn⟩
              case measure => simp [RowKit.intOf]

            · have HPn : Hid (SvP m (7 + 1 < xs.length ∧ 7 + 1 < 8) D' L' true L' T) := Lib.hid (by
                have e : L' ++ F = T := HTq.out
                rw [e] at HU hfit
                exact ⟨hlenA, HU, hfitA, by rw [HD8.out] at hfit; exact hfit, fun h => absurd h (by omega)⟩)
              clear HPW hlenA hfitA HC HC8 HD8 HU hfit hoff
              go_wp2_with fail
              go_roundw
              case rel => exact ⟨7 + 1, fpA, D', vrA, L', L', T, true, by go_num, hlt, by omega, HJA, HWA, HTA, HPn⟩
              case measure => simp [RowKit.intOf]
          · have hb2 : ((k : Int) == 7) = false := by rw [beq_eq_false_iff_ne]; omega
            have HC8 : Hid (CleanL D L) := Lib.hid HC.out.any
            have HD8 : Hid (D.dur.length = m) := Lib.hid HDm.out
            have HL8 : Hid (D.left = 0) := Lib.hid HC.out.left
            have HJ8 := HJ7; have HW8 := HW7; have HT8 := HT7
            clear HJ7 HW7 HT7
            generalize W7 = w8 at *
            generalize D = D8 at *

            have ck := HJ8.out.fr.cel HCk.out (by simp)
            go_wp2_with fail
            clear ck
            refine (HFe.out w8 HJ8.out.fr).mono ?_
            rintro e w9 ⟨v9, rfl, r9, y9, f9⟩
            have s9 := sl_of_row r9
            obtain ⟨va, vc, rfl⟩ := s9.val
            obtain ⟨n', L', br', D', e1, PW⟩ := append_pow HC8.out (by rw [HD8.out]; exact hLm) (fewM l) (few_long l)
            have AP := few_u (HJ8.out.same f9) HR.out l va vc s9 (by rw [HD8.out]; exact hLm) (by have := HC8.out.pend; simp only at this; rw [this]; simp)
            rw [e1] at AP
            have HAP := Lib.hid AP; have HPW := Lib.hid PW
            have HW9 := Lib.hid (HW8.out.same f9); have HT9 := Lib.hid (HT8.out.same f9)
            clear AP PW e1 r9 y9 s9 f9 HJ8 HW8 HT8
            generalize fewM l = F at *
            go_wp2_with fail
            refine HAP.out.mono ?_
            rintro e wA ⟨he, vrA, fpA, jsA, uA⟩
            have he' : e = .returned (.int .i64 n') := he
            subst he'
            have HJA : Hid (JS w wA db fpA D' [⟨jb, vrA, tp0.adds L', br'⟩]) := Lib.hid jsA
            have HWA := Lib.hid (HW9.out.upd uA); have HTA := Lib.hid (HT9.out.upd uA)
            clear he jsA uA HAP HW9 HT9
            have hlenA : D'.dur.length = m := by rw [HPW.out.len]; exact HD8.out
            have hfitA : encN L' ≤ m := by have := HPW.out.fit; rw [HD8.out] at this; exact this

            rcases HPW.out.way with ⟨rfl, rfl, rfl, CA⟩ | ⟨rfl, rfl, rfl, rfl⟩ | ⟨rfl, rfl, rfl, hoff, HU, hfit⟩
            · have HPn : Hid (SvP m (k + 1 < xs.length ∧ k + 1 < 8) D' T false T T) := Lib.hid (by
                have e : L ++ F = T := HTq.out
                rw [e] at CA hfitA
                exact ⟨hlenA, CA.hurt, hfitA, hfitA, fun _ => ⟨rfl, CA.clean (HPW.out.left HL8.out).1, hfitA⟩⟩)
              have HJB : Hid (JS w wA db fpA D' [⟨jb, vrA, tp0.adds T, false⟩]) := Lib.hid (by rw [← HTq.out]; exact HJA.out)
              clear HJA HWA HPW CA hlenA hfitA HC HC8 HD8
              go_wp2_with fail
              go_roundw
              case rel => exact ⟨k + 1, fpA, D', vrA, T, T, T, false, by go_num, hlt, by omega, HJB, HTA, HTA, HPn⟩
              case measure => simp [RowKit.intOf]; omega
            · have HPn : Hid (SvP m (k + 1 < xs.length ∧ k + 1 < 8) D' L' false L' L') := Lib.hid ⟨hlenA, HC8.out.hurt, hfitA, hfitA, fun _ => ⟨rfl, HC8.out.clean (HPW.out.left HL8.out).1, hfitA⟩⟩
              clear HTA HPW hlenA hfitA HC HC8 HD8
              go_wp2_with fail
              go_roundw
              case rel => exact ⟨k + 1, fpA, D', vrA, L', L', L', false, by go_num, hlt, by omega, HJA, HWA, HWA, HPn⟩
              case measure => simp [RowKit.intOf]; omega

            · exact absurd (HPW.out.left HL8.out).2 (by simp)
      · obtain ⟨wa, wc, rfl⟩ := HW.out.val
        obtain ⟨ta, tc, rfl⟩ := HT.out.val
        obtain ⟨Lr, D6, hLr, hop, C6, n6⟩ := HP.out.hurt.opens HJ.out.ok kp torn
        have CR := crash_s HJ.out ka kc kp torn HK.out (by rw [HKl.out]; omega) ht.1 ht.2
        rw [HKl.out] at CR
        have HCR := Lib.hid CR
        have HLr := Lib.hid hLr; have HOp := Lib.hid hop
        have hlr : Lr.length ≤ 1500 := by
          have h1 := len_le_enc Lr
          have h2 := HP.out.fitA
          have h3 := HP.out.fitB
          rcases hLr with h | h <;> (subst h; omega)
        have hp0 : (D.crash kp torn).pend.length ≤ 4000000000 := Nat.zero_le _
        generalize D.crash kp torn = Dc at *
        clear CR hLr hop C6 n6 HP HJ
        go_wp2_with fail
        refine HCR.out.mono ?_
        rintro e w5 ⟨rfl, fp5, js5, u5⟩
        have HW5 := Lib.hid (HW.out.upd (upd_jsB u5)); have HT5 := Lib.hid (HT.out.upd (upd_jsB u5)); have HJ5 := Lib.hid js5
        clear js5 u5 HW HT HCR
        go_wp2_with fail
        refine (open_u HJ5.out HR.out HA.out hp0 HOp.out).mono ?_
        rintro e w6 ⟨kb, vk, fp6, rfl, js6, u6, _⟩
        have HW6 := Lib.hid (HW5.out.upd (upd_jsB u6)); have HT6 := Lib.hid (HT5.out.upd (upd_jsB u6)); have HJ6 := Lib.hid js6
        clear js6 u6 HW5 HT5 HJ5 HOp
        go_wp2_with fail
        refine (rec_r (L := Lr) HJ6.out (List.mem_cons_self) (by omega)).mono ?_
        rintro e w7 ⟨ra, rc, rfl, r7, f7, _⟩
        have HW7 := Lib.hid (HW6.out.same f7); have HT7 := Lib.hid (HT6.out.same f7); have HJ7 := Lib.hid (HJ6.out.same f7); have HR7 := Lib.hid (sl_of_row r7)
        clear r7 f7 HW6 HT6 HJ6
        go_wp2_with fail
        refine (same10_c ra wa rc wc Lr A w7 HR7.out HW7.out.sl).mono ?_
        rintro e w8 ⟨rfl, f8⟩
        have HJ8 := Lib.hid (HJ7.out.same f8); have HT8 := Lib.hid (HT7.out.same f8)
        clear f8 HR7 HW7 HT7 HJ7
        by_cases hq : Lr = A
        · rw [decide_eq_true hq]
          have HF := Lib.hid HJ8.out.fr
          clear hq HLr
          go_wp2_with fail
          go_ret
          exact ⟨rfl, HF.out⟩
        · have hB : Lr = B := HLr.out.resolve_left hq
          rw [decide_eq_false hq]
          have HB := Lib.hid hB
          clear hq hB HLr
          go_wp2_with fail
          refine (rec_r (L := Lr) HJ8.out (List.mem_cons_self) (by omega)).mono ?_
          rintro e w9 ⟨rb, rd, rfl, r9, f9, _⟩
          have HT9 := Lib.hid (HT8.out.same f9); have HJ9 := Lib.hid (HJ8.out.same f9); have HR9 := Lib.hid (sl_of_row r9)
          clear r9 f9 HT8 HJ8
          go_wp2_with fail
          refine (same10_c rb ta rd tc Lr B w9 HR9.out HT9.out.sl).mono ?_
          rintro e wX ⟨rfl, fX⟩
          rw [decide_eq_true HB.out]
          have HF := Lib.hid (HJ9.out.fr.trans fX)
          clear fX HB HR9 HT9 HJ9
          go_wp2_with fail
          go_ret
          exact ⟨rfl, HF.out⟩
    · obtain ⟨wa, wc, rfl⟩ := HW.out.val
      obtain ⟨ta, tc, rfl⟩ := HT.out.val
      obtain ⟨Lr, D6, hLr, hop, C6, n6⟩ := HP.out.hurt.opens HJ.out.ok kp torn
      have CR := crash_s HJ.out ka kc kp torn HK.out (by rw [HKl.out]; omega) ht.1 ht.2
      rw [HKl.out] at CR
      have HCR := Lib.hid CR
      have HLr := Lib.hid hLr; have HOp := Lib.hid hop
      have hlr : Lr.length ≤ 1500 := by
        have h1 := len_le_enc Lr
        have h2 := HP.out.fitA
        have h3 := HP.out.fitB
        rcases hLr with h | h <;> (subst h; omega)
      have hp0 : (D.crash kp torn).pend.length ≤ 4000000000 := Nat.zero_le _
      generalize D.crash kp torn = Dc at *
      clear CR hLr hop C6 n6 HP HJ
      go_wp2_with fail
      refine HCR.out.mono ?_
      rintro e w5 ⟨rfl, fp5, js5, u5⟩
      have HW5 := Lib.hid (HW.out.upd (upd_jsB u5)); have HT5 := Lib.hid (HT.out.upd (upd_jsB u5)); have HJ5 := Lib.hid js5
      clear js5 u5 HW HT HCR
      go_wp2_with fail
      refine (open_u HJ5.out HR.out HA.out hp0 HOp.out).mono ?_
      rintro e w6 ⟨kb, vk, fp6, rfl, js6, u6, _⟩
      have HW6 := Lib.hid (HW5.out.upd (upd_jsB u6)); have HT6 := Lib.hid (HT5.out.upd (upd_jsB u6)); have HJ6 := Lib.hid js6
      clear js6 u6 HW5 HT5 HJ5 HOp
      go_wp2_with fail
      refine (rec_r (L := Lr) HJ6.out (List.mem_cons_self) (by omega)).mono ?_
      rintro e w7 ⟨ra, rc, rfl, r7, f7, _⟩
      have HW7 := Lib.hid (HW6.out.same f7); have HT7 := Lib.hid (HT6.out.same f7); have HJ7 := Lib.hid (HJ6.out.same f7); have HR7 := Lib.hid (sl_of_row r7)
      clear r7 f7 HW6 HT6 HJ6
      go_wp2_with fail
      refine (same10_c ra wa rc wc Lr A w7 HR7.out HW7.out.sl).mono ?_
      rintro e w8 ⟨rfl, f8⟩
      have HJ8 := Lib.hid (HJ7.out.same f8); have HT8 := Lib.hid (HT7.out.same f8)
      clear f8 HR7 HW7 HT7 HJ7
      by_cases hq : Lr = A
      · rw [decide_eq_true hq]
        have HF := Lib.hid HJ8.out.fr
        clear hq HLr
        go_wp2_with fail
        go_ret
        exact ⟨rfl, HF.out⟩
      · have hB : Lr = B := HLr.out.resolve_left hq
        rw [decide_eq_false hq]
        have HB := Lib.hid hB
        clear hq hB HLr
        go_wp2_with fail
        refine (rec_r (L := Lr) HJ8.out (List.mem_cons_self) (by omega)).mono ?_
        rintro e w9 ⟨rb, rd, rfl, r9, f9, _⟩
        have HT9 := Lib.hid (HT8.out.same f9); have HJ9 := Lib.hid (HJ8.out.same f9); have HR9 := Lib.hid (sl_of_row r9)
        clear r9 f9 HT8 HJ8
        go_wp2_with fail
        refine (same10_c rb ta rd tc Lr B w9 HR9.out HT9.out.sl).mono ?_
        rintro e wX ⟨rfl, fX⟩
        rw [decide_eq_true HB.out]
        have HF := Lib.hid (HJ9.out.fr.trans fX)
        clear fX HB HR9 HT9 HJ9
        go_wp2_with fail
        go_ret
        exact ⟨rfl, HF.out⟩

end Go.Proofs.YtfmlaepgnfphiaaGreatDoor
