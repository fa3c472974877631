/-
  The journal's laws: JournalDamaged, from readable arguments.
-/
import Derived.Test.YtbogljpafpkikaaGreatDoorQL10l
namespace Go.Proofs.YtbogljpafpkikaaGreatDoor
open Go.RowKit Go.Lib

theorem enc100 : ∀ (l : List ByteArray), (∀ r, r ∈ l → r.size ≤ 100) → encN l ≤ l.length * 136
  | [], _ => Nat.zero_le _
  | r :: l, h => by
    have h1 := h r (by simp)
    have h2 := enc100 l (fun x hx => h x (by simp [hx]))
    have h3 := (encZ_len (2 * r.size) (by omega)).1
    rw [encN, List.length_cons]
    omega
theorem encN_zero {l : List ByteArray} (h : encN l = 0) : l = [] := by
  cases l with
  | nil => rfl
  | cons r l => rw [encN] at h; omega
theorem encN_mem {l : List ByteArray} {r : ByteArray} (h : r ∈ l) : r.size ≤ encN l := by
  induction l with
  | nil => simp at h
  | cons x l ih =>
    rw [encN]
    rcases List.mem_cons.1 h with rfl | h
    · omega
    · have := ih h; omega
theorem strs_ne {s t : ByteArray} (h : s ≠ t) : (s.toList == t.toList) = false := by
  rw [beq_eq_false_iff_ne, ByteArray.toList_eq, ByteArray.toList_eq]
  intro e; apply h; exact ByteArray.ext (Array.ext' e)

set_option maxRecDepth 100000 in
set_option maxHeartbeats 8000000 in
theorem damaged_c (atv : Int) (c : UInt8) (a0 : Addr) (a : Option Addr) (cap : Nat) (xs : List (Value × List ByteArray)) (w : World) (hat : -9223372036854775808 ≤ atv ∧ atv ≤ 9223372036854775807)
    (hs : Sl w (.slice a xs.length cap) xs.length (xs.map (·.1))) (hx : ∀ x, x ∈ xs → GOk w x.1 x.2) (hR : RndAt w) (hA : DmgAt w a0) :
    Calls Tryz.prog 4 #[.slice a xs.length cap, .int .i64 atv, .int .u8 c.toNat] w fun e w' => e = .returned (.bool true) ∧ Fr [] w w' := by
  have hlen := hs.len
  have HSa := Lib.hid (sane10_c a0 w hR hA)
  have HS := Lib.hid hs; have HX := Lib.hid hx; have HR := Lib.hid hR; have HA := Lib.hid hA
  clear hs hx hR hA
  go_enter Tryz.func4, Tryz.ntmps4
  go_wp2_with fail
  refine HSa.out.mono ?_
  rintro e w1 ⟨rfl, f1⟩
  have HF1 := Lib.hid f1
  clear f1 HSa
  go_wp2_with fail
  refine (new_s 6000 w w1 HF1.out (by omega) (by omega)).mono ?_
  rintro e w2 ⟨db, fp, rfl, js2⟩
  have C0 := clean_new 6000
  have hd0 : (Dk.new 6000).dur.length = 6000 := by simp [Dk.new]
  have HOp := open_s js2 HR.out HA.out (by simp [Dk.new])
  rw [clean_open C0] at HOp
  have HP := Lib.hid HOp
  have HC0 := Lib.hid C0; have HD0 := Lib.hid hd0
  clear js2 HOp C0 hd0 HF1
  generalize Dk.new 6000 = DN at *
  go_wp2_with fail
  refine HP.out.mono ?_
  rintro e w3 ⟨jb, vr, fp3, he, js3⟩
  have he' : e = .returned (.tuple #[.pointer (some ⟨jb, 0, none⟩), .int .i64 0]) := he
  subst he'
  replace js3 : JS w w3 db fp3 DN [⟨jb, vr, tp0.adds [], false⟩] := js3
  have HJ3 := Lib.hid js3
  clear he js3 HP
  go_upto_block 0 with fail
  go_cut [] (fun W => ∃ (fp' : List Nat) (D : Dk) (vr' : Value) (L : List ByteArray), Hid (JS w W db fp' D [⟨jb, vr', tp0.adds L, false⟩]) ∧ Hid (Clean D L ∧ D.dur.length = 6000 ∧ encN L ≤ 4896))
  case first =>
    go_wp2_with fail
    go_loopw [12] (fun iv wr => ∃ (k : Nat) (fp' : List Nat) (D : Dk) (vr' : Value) (L : List ByteArray), iv = .int .i64 k ∧ k ≤ xs.length ∧ k ≤ 6 ∧ Hid (JS w wr db fp' D [⟨jb, vr', tp0.adds L, false⟩]) ∧ Hid (Clean D L ∧ D.dur.length = 6000 ∧ encN L ≤ k * 816)) (fun iv _ => 6 - (RowKit.intOf iv).toNat)
    case atStart => exact ⟨0, fp3, DN, vr, [], rfl, Nat.zero_le _, by omega, HJ3, Lib.hid ⟨HC0.out, HD0.out, by simp [encN]⟩⟩
    case round =>
      clear HJ3 HC0 HD0
      obtain ⟨k, fp', D, vr', L, rfl, hk, hk6, HJ, HC⟩ := hrel
      have HC6 : Hid (Clean D L ∧ D.dur.length = 6000 ∧ encN L ≤ 4896) := Lib.hid ⟨HC.out.1, HC.out.2.1, by have := HC.out.2.2; omega⟩
      by_cases hlt : k < xs.length
      · by_cases hl6 : k < 6
        · obtain ⟨b, off, rfl, hc⟩ := HS.out.at_ (by omega)
          obtain ⟨ga, gc, hg1, hg2, hg3⟩ := HX.out _ (List.getElem_mem hlt)
          have ck : wr.cell? ⟨b, off + k, none⟩ = some (.slice ga (xs[k]).2.length gc) := HJ.out.fr.cel (by rw [← hg1]; exact hc k _ (by simp [hlt])) (by simp)
          have HFe := Lib.hid (few10_c ga gc (xs[k]).2 wr (hg2.same HJ.out.fr) hg3)
          clear hc hg1 hg2 hg3
          generalize (xs[k]).2 = l at *
          go_wp2_with fail
          clear ck
          refine HFe.out.mono ?_
          rintro e w5 ⟨v, rfl, hr5, _, f5⟩
          have s5 := sl_of_row hr5
          obtain ⟨va, vc, rfl⟩ := s5.val
          have hjs := HJ.out.same f5
          have hn1 := enc100 (fewM l) (fun r hr => fewM_size hr)
          have hn2 := fewM_len l
          have hfit : encN (L ++ fewM l) ≤ (k + 1) * 816 := by
            have := HC.out.2.2
            rw [encN_append]
            omega
          obtain ⟨D', e1, C', d1⟩ := clean_fit HC.out.1 (fewM l) (few_long l) (by rw [enc_size, HC.out.2.1]; omega)
          have AP := few_s hjs HR.out l va vc s5 (by have := HC.out.2; omega) (by rw [HC.out.1.pend]; simp)
          rw [e1] at AP
          have HAP := Lib.hid AP
          have HC' : Hid (Clean D' (L ++ fewM l) ∧ D'.dur.length = 6000 ∧ encN (L ++ fewM l) ≤ (k + 1) * 816) := Lib.hid ⟨C', by rw [d1]; exact HC.out.2.1, hfit⟩
          clear HC6 AP hjs s5 hr5 f5 HFe e1 C' d1 hn1 hn2 hfit HC HJ
          generalize L ++ fewM l = L' at *
          generalize (fewM l).length = fl at *
          go_wp2_with fail
          refine HAP.out.mono ?_
          rintro e w6 ⟨he, vr6, fp6, js6⟩
          have he' : e = .returned (.int .i64 0) := he
          subst he'
          have HJ6 : Hid (JS w w6 db fp6 D' [⟨jb, vr6, tp0.adds L', false⟩]) := Lib.hid js6
          clear he js6 HAP
          go_wp2_with fail
          go_roundw
          case rel => exact ⟨k + 1, fp6, D', vr6, L', by go_num, hlt, by omega, HJ6, HC'⟩
          case measure => simp [RowKit.intOf]; omega
        · go_wp2_with fail
          go_meet
          case rel => exact ⟨fp', D, vr', L, HJ, HC6⟩
      · go_wp2_with fail
        go_meet
        case rel => exact ⟨fp', D, vr', L, HJ, HC6⟩
  case rest =>
    clear HJ3 HC0 HD0
    obtain ⟨fp', D, vr', L, HJ, HC⟩ := hcut
    have hU6 : encN L ≤ 4896 := HC.out.2.2
    have hLl : L.length ≤ 4896 := by have := len_le_enc L; omega
    have HCl := Lib.hid HC.out.1
    have HDm := Lib.hid HC.out.2.1
    clear HC
    go_wp2_with fail
    refine (rec_r (L := L) HJ.out (List.mem_singleton.2 rfl) (by omega)).mono ?_
    rintro e w4 ⟨wa, wc, rfl, r4, f4, y4⟩
    have HW4 : Hid (SlF w4 (.slice wa L.length wc) L (jsB jb vr' fp')) := Lib.hid ⟨sl_of_row r4, far_new HJ.out y4⟩
    have HJ4 := Lib.hid (HJ.out.same f4)
    clear r4 f4 y4 HJ
    go_wp2_with fail
    refine (room_s (L := L) HJ4.out (List.mem_singleton.2 rfl) (by omega)).mono ?_
    rintro e w5 ⟨he, f5⟩
    have hre : ((D.dur.length : Int) - (encN L : Nat)) = ((6000 - encN L : Nat) : Int) := by have := HDm.out; omega
    rw [hre] at he
    subst he
    clear hre
    have HW5 := Lib.hid (HW4.out.same f5); have HJ5 := Lib.hid (HJ4.out.same f5)
    clear f5 HW4 HJ4
    have HU : Hid (∀ r, r ∈ L → r.size ≤ 65536) := Lib.hid fun r hr => by have := encN_mem hr; omega
    by_cases hU : encN L = 0
    · obtain rfl : L = [] := encN_zero hU
      have hF := Lib.hid HJ5.out.fr
      clear HW5 HJ5 HCl HDm HU hU
      generalize hRe : 6000 - encN [] = R at *
      have hR0 : R = 6000 := by rw [← hRe]; rfl
      have hR1 : R ≤ 6000 := by omega
      have hR2 : 6000 ≤ R := by omega
      have hRb : (((6000 : Int) - (R : Int)) == 0) = true := by rw [beq_iff_eq]; omega
      clear hRe hR0
      go_wp2_with fail
      go_ret
      exact ⟨rfl, hF.out⟩
    · have hk6U : 0 < encN L := by omega
      generalize hRe : 6000 - encN L = R at *
      have HUe : Hid (encN L + R = 6000) := Lib.hid (by omega)
      have hR1 : R < 6000 := by omega
      have hR3 : ¬ (6000 ≤ R) := by omega
      clear hRe hk6U hU
      have HPk := Lib.hid fun w => pick10_c atv (6000 - (R : Int)) w hat (by omega) (by omega)
      have hpb := pickJ_bound atv (6000 - (R : Int)) (by omega)
      generalize pickJ atv (6000 - (R : Int)) = pc at *
      obtain ⟨k9, rfl⟩ := Int.eq_ofNat_of_zero_le hpb.1
      have hk9 : k9 + R < 6000 := by omega
      clear hpb
      -- @@1
      go_wp2_with fail
      refine (HPk.out _).mono ?_
      rintro e w6 ⟨rfl, rfl⟩
      clear HPk
      -- @@2
      go_wp2_with fail
      refine (sized10_c wa wc L k9 w5 HW5.out.sl HU.out (by omega) (by omega)).mono ?_
      rintro e w6 ⟨rfl, f6⟩
      have HW6 := Lib.hid (HW5.out.same f6); have HJ6 := Lib.hid (HJ5.out.same f6)
      clear f6 HW5 HJ5
      by_cases hsz : sizedM L k9 = true
      · rw [hsz]
        have hF := Lib.hid HJ6.out.fr
        clear HW6 HJ6 HCl HDm HU hsz
        go_wp2_with fail
        go_ret
        exact ⟨rfl, hF.out⟩
      · have hsz2 : sizedM L k9 = false := by simpa using hsz
        rw [hsz2]
        have HSz := Lib.hid hsz2
        clear hsz hsz2
        go_wp2_with fail
        refine (content10_c db fp' D w6 HJ6.out.disk HCl.out.off).mono ?_
        rintro e w7 ⟨rfl, rfl⟩
        -- @@3
        have hvl : D.vis.length = 6000 := by rw [← HCl.out.dur]; exact HDm.out
        have hk0 : k9 < D.vis.length := by omega
        obtain ⟨z, hz⟩ := HCl.out.vis
        obtain ⟨y, hy⟩ : ∃ y, D.vis[k9]? = some y := ⟨_, List.getElem?_eq_getElem hk0⟩
        have hyL : (encAll head0 L)[k9]? = some y := by
          have h1 : k9 < (encAll head0 L).length := by rw [enc_size]; have := HUe.out; omega
          rw [hz, List.getElem?_append_left h1] at hy
          exact hy
        obtain ⟨S, hS⟩ : ∃ S, str D.vis = S := ⟨_, rfl⟩
        have hSz : S.size = 6000 := by rw [← hS, str_size]; exact hvl
        have hk6 : k9 < S.size := by omega
        have hSy : S[k9] = y := by
          subst hS
          have h2 : (str D.vis)[k9] = D.vis[k9] := rfl
          rw [h2]
          rw [List.getElem?_eq_getElem hk0] at hy
          exact Option.some.inj hy
        rw [hS]
        have HVl := Lib.hid hvl; have HZ := Lib.hid hz; have HyL := Lib.hid hyL
        have hb6 : ((S.size : Int) != 6000) = false := by rw [hSz]; rfl
        have hb7 : ((S.size : Int) == 6000) = true := by rw [hSz]; rfl
        have hk7 : k9 < 6000 := by omega
        have HSz6 := Lib.hid hSz
        clear hS hvl hz hy hk0 hyL hSz
        -- @@a
        by_cases hc : y = c
        · have hbc : (((S[k9]).toNat : Int) == (c.toNat : Int)) = true := by rw [hSy, hc]; simp
          have hF := Lib.hid HJ6.out.fr
          clear HW6 HJ6 HCl HDm HU HSz hc hSy HVl HZ HyL
          -- @@b
          go_wp2_with fail
          go_ret
          exact ⟨rfl, hF.out⟩
        · have hbc : (((S[k9]).toNat : Int) == (c.toNat : Int)) = false := by
            rw [hSy, beq_eq_false_iff_ne]
            intro e
            apply hc
            exact UInt8.toNat_inj.1 (by omega)
          -- @@4
          have HNe : Hid ((encAll head0 L)[k9]? ≠ some c) := Lib.hid fun e => hc (by
            rw [HyL.out] at e
            exact Option.some.inj e)
          have hvl := HVl.out
          have hz := HZ.out
          have WU := writeU (D := D) HCl.out.off HCl.out.left (o := (k9 : Int)) (s := str [c]) (by omega) (by rw [str_size, HDm.out, Int.toNat_natCast]; simp; omega)
          rw [Int.toNat_natCast] at WU
          have CW := fun (W : World) (hj : JS w W db fp' D [⟨jb, vr', tp0.adds L, false⟩]) => (write_dk db fp' D k9 (str [c]) W hj.disk (by omega) (by omega) (by rw [str_size]; simp) (by rw [HCl.out.pend]; simp))
          rw [WU.1, WU.2] at CW
          have HCW := Lib.hid CW
          have hD2v : (D.put k9 (str [c])).vis = (encAll head0 L ++ List.replicate z 0).set k9 c := by
            show paste D.vis k9 [c] = _
            rw [paste_one _ _ _ (by omega), ← hz]
          have hD2l : (D.put k9 (str [c])).vis.length = 6000 := by rw [hD2v, List.length_set, ← hz]; exact hvl
          have hOA := opens_any (D := D.put k9 (str [c])) HCl.out.off HCl.out.left (by rw [hD2l]; exact HDm.out.symm)
          have HD2v := Lib.hid hD2v; have HD2l := Lib.hid hD2l
          have hp2 : (D.put k9 (str [c])).pend.length ≤ 4000000000 := by show (D.pend ++ [_]).length ≤ _; rw [HCl.out.pend]; simp
          have HOA := Lib.hid hOA; have HP2 := Lib.hid hp2
          clear WU CW hD2v hD2l hOA hp2 hc hSy HyL hvl hz HVl HZ HCl HDm
          generalize D.put k9 (str [c]) = D2 at *
          -- @@c
          go_wp2_with (first | ((with_reducible refine wpList_of_wp (o := ⟨some 104, _, _, _, _, _⟩) rfl (fun K hK => ?_)); apply stopD; case _other => exact trivial))
          (refine stopD ?_ ?_; rotate_left; exact trivial)
          have fb := Fr.alloc [] w6 (.cells #[.int .u8 (c.toNat : Int)] 5)
          have sb := sl_bytes (ty := 5) (heap_alloc_new w6 (.cells (byteCells [c]).toArray 5)) rfl (by simp)
          refine wp_sl_str (.tmp 103) rfl _ 1 1 [c] rfl sb (by omega) rfl ?_
          refine hK _ _ ?_
          clear hK K sb
          have HWb := Lib.hid (HW6.out.same fb); have HJb := Lib.hid (HJ6.out.same fb)
          clear fb HW6 HJ6 hbc hb6 hb7 HSz6
          have HST : Shut ((⟨[c].toArray⟩ : ByteArray) = str [c]) := ⟨rfl⟩
          rw [HST.out]
          generalize str [c] = SC at *
          generalize World.alloc w6 _ = Wb at *
          go_wp2_with fail
          refine (HCW.out Wb HJb.out).mono ?_
          rintro e w8 hst
          obtain ⟨rfl, fp8, hd8, u8⟩ := hst
          have HJ8 := Lib.hid (HJb.out.upd hd8 u8); have HW8 := Lib.hid (HWb.out.upd (upd_jsB u8))
          clear hd8 u8 HJb HWb HCW
          -- @@5
          have OP := open_s HJ8.out HR.out HA.out HP2.out
          rcases HOA.out with ⟨_, ho⟩ | ⟨t, D3, hot, ho⟩
          · rw [ho] at OP
            have HO := Lib.hid OP
            clear OP ho HOA
            go_wp2_with fail
            refine HO.out.mono ?_
            rintro e w9 ⟨he, fp9, js9⟩
            have he' : e = .returned (.tuple #[.pointer none, .int .i64 102]) := he
            subst he'
            have hF := Lib.hid js9.fr
            clear js9 he HO HJ8 HW8
            go_wp2_with fail
            go_ret
            exact ⟨rfl, hF.out⟩
          · obtain ⟨M, X, rfl, hM1, hM2, hX⟩ := openM_sound hot
            have hml : encN M ≤ 6000 := by
              have h1 := HD2l.out
              rw [hM2, List.length_append, enc_size] at h1
              omega
            have hMl : M.length ≤ 6000 := by have := len_le_enc M; omega
            have HWay := Lib.hid (damaged_way (Z := List.replicate z 0) hX (by have := HUe.out; omega) HNe.out HSz.out (by rw [← HD2v.out]; exact hM2))
            have HM1 := Lib.hid hM1
            have OU := open_u HJ8.out HR.out HA.out HP2.out ho
            have HOU := Lib.hid OU
            clear OP OU ho hot hM1 hM2 hX HOA HNe HSz HD2v HD2l HP2 hml
            go_wp2_with fail
            refine HOU.out.mono ?_
            rintro e w9 ⟨xb, vx, fp9, rfl, js9, u9, _⟩
            have HJ9 : Hid (JS w w9 db fp9 D3 [⟨xb, vx, tp0.adds M, false⟩]) := Lib.hid (js9.only (by simp)); have HW9 := Lib.hid (HW8.out.upd (upd_jsB u9))
            clear js9 u9 HJ8 HW8 HOU
            go_wp2_with fail
            refine (rec_r (L := M) HJ9.out (List.mem_singleton.2 rfl) (by omega)).mono ?_
            rintro e wA ⟨ia, ic, rfl, rA, fA, _⟩
            have HI := Lib.hid (sl_of_row rA)
            -- @@6
            have HWA := Lib.hid (HW9.out.sl.same fA)
            have HFA := Lib.hid (HJ9.out.fr.trans fA)
            have hwc := HWA.out.caps2
            clear rA fA HJ9 HW9
            by_cases hc0 : c = 0
            · have hbz : ((c.toNat : Int) == 0) = true := by rw [hc0]; rfl
              by_cases hml : M.length < L.length
              · have HWt : Hid (Sl wA (.slice wa M.length wc) (L.take M.length).length ((L.take M.length).map Value.string)) := Lib.hid (by
                  have h1 := HWA.out.cut2 M.length (by omega)
                  rw [← List.map_take] at h1
                  rw [show (L.take M.length).length = M.length by rw [List.length_take]; omega]
                  exact h1)
                have hmc : M.length ≤ wc := by omega
                have CS := same10_c ia wa ic wc M (L.take M.length) wA HI.out (by
                  rw [show (L.take M.length).length = M.length by rw [List.length_take]; omega]
                  have := HWt.out
                  rw [show (L.take M.length).length = M.length by rw [List.length_take]; omega] at this
                  exact this)
                rw [show (L.take M.length).length = M.length by rw [List.length_take]; omega] at CS
                have HCS := Lib.hid CS
                clear CS HWt
                have HXc := Lib.hid hc0
                clear hc0
                go_wp2_with fail
                refine HCS.out.mono ?_
                rintro e wA1 ⟨rfl, fA1⟩
                have HWA1 := Lib.hid (HWA.out.same fA1); have HI1 := Lib.hid (HI.out.same fA1); have HFA1 := Lib.hid (HFA.out.trans fA1)
                clear fA1 HWA HI HFA HCS
                by_cases hq : M = L.take M.length
                · rw [decide_eq_true hq]
                  clear hq
                  go_wp2_with fail
                  go_ret
                  exact ⟨rfl, HFA1.out⟩
                · rw [decide_eq_false hq]
                  have HColl := Lib.hid (HWay.out.resolve_left (fun h => hq h.2.2))
                  clear hq HWay
                  obtain ⟨i0, hi1, hi2, hne0, heq0⟩ := HColl.out
                  have HX0 : Hid (∀ i, (h1 : i < (headsM head0 L).length) → (h2 : i < (headsM head0 M).length) → i = i0 → (headsM head0 L)[i] ≠ (headsM head0 M)[i] ∧ shaB (headsM head0 L)[i] = shaB (headsM head0 M)[i]) := Lib.hid (by
                    intro i h1 h2 e
                    subst e
                    exact ⟨hne0, heq0⟩)
                  have hi3 : i0 < L.length := by rw [headsM_len] at hi1; exact hi1
                  have hi4 : i0 < M.length := by rw [headsM_len] at hi2; exact hi2
                  clear hne0 heq0 HColl hi1 hi2
                  go_wp2_with fail
                  refine (heads10_c wa wc L wA1 HWA1.out HU.out (by omega)).mono ?_
                  rintro e wB ⟨ga, gc, rfl, sB, fB⟩
                  have HIB := Lib.hid (HI1.out.same fB); have HFB := Lib.hid (HFA1.out.trans fB); have HGA := Lib.hid sB
                  clear sB fB
                  go_wp2_with fail
                  refine (heads10_c ia ic M wB HIB.out HM1.out (by omega)).mono ?_
                  rintro e wC ⟨gb, gd, rfl, sC, fC⟩
                  have HGA2 := Lib.hid (HGA.out.same fC); have HGB := Lib.hid sC; have HFC := Lib.hid (HFB.out.trans fC)
                  clear sC fC HGA HIB HFB
                  have HlA : Hid ((headsM head0 L).length = L.length) := Lib.hid (headsM_len _ _)
                  have HlB : Hid ((headsM head0 M).length = M.length) := Lib.hid (headsM_len _ _)
                  have HzA : Hid (∀ r, r ∈ headsM head0 L → r.size ≤ 1000000) := Lib.hid (headsM_small L head0 rfl HU.out)
                  have HzB : Hid (∀ r, r ∈ headsM head0 M → r.size ≤ 1000000) := Lib.hid (headsM_small M head0 rfl HM1.out)
                  generalize headsM head0 L = PA at *
                  generalize headsM head0 M = PB at *
                  go_wp2_with fail
                  go_loopw [23] (fun iv wr => ∃ k : Nat, iv = .int .i64 k ∧ k ≤ i0 ∧ Hid (Fr [] wC wr)) (fun iv _ => i0 + 1 - (RowKit.intOf iv).toNat)
                  case atStart => exact ⟨0, rfl, Nat.zero_le _, Lib.hid (Fr.refl _ _)⟩
                  case round =>
                    obtain ⟨k, rfl, hki, HF⟩ := hrel
                    have hka : k < L.length := by omega
                    have hkb : k < M.length := by omega
                    obtain ⟨b1, o1, rfl, hc1⟩ := (HGA2.out.same HF.out).at_ (by omega)
                    obtain ⟨b2, o2, rfl, hc2⟩ := (HGB.out.same HF.out).at_ (by omega)
                    have hkA : k < PA.length := by rw [HlA.out]; exact hka
                    have hkB : k < PB.length := by rw [HlB.out]; exact hkb
                    have q1 : wr.cell? ⟨b1, o1 + k, none⟩ = some (.string PA[k]) := hc1 k _ (by simp [hkA])
                    have q2 : wr.cell? ⟨b2, o2 + k, none⟩ = some (.string PB[k]) := hc2 k _ (by simp [hkB])
                    have HXk : Hid (k = i0 → PA[k] ≠ PB[k] ∧ shaB PA[k] = shaB PB[k]) := Lib.hid (HX0.out k hkA hkB)
                    have C1 := Lib.hid fun W => sum2_c PA[k] (by have := HzA.out _ (List.getElem_mem hkA); omega) W
                    have C2 := Lib.hid fun W => sum2_c PB[k] (by have := HzB.out _ (List.getElem_mem hkB); omega) W
                    clear hc1 hc2
                    generalize PA[k] = s1 at *
                    generalize PB[k] = s2 at *
                    clear hkA hkB
                    go_wp2_with fail
                    by_cases hne : s1 = s2
                    · have hnx : k ≠ i0 := fun e => (HXk.out e).1 hne
                      have hb2 : (!s1.toList == s2.toList) = false := by rw [hne, beq_self_eq_true]; rfl
                      clear hne
                      refine reg_mix (Fr [] wr) [0, 1, 2, 3, 4, 5, 6, 7, 8, 9, 10, 11, 12, 13, 15, 16, 17, 18, 14, 19, 20, 21] (by kernel_rfl) (by kernel_rfl) (by kernel_rfl) rfl (Fr.drew _ _) ?_
                      have FC : Fr [] wr wr.drew := Fr.drew _ _
                      generalize wr.drew = WC at FC ⊢
                      iterate 8 (refine mix_take1 (v := ?_) rfl rfl rfl rfl (fun w hS => ?_) ?_; rotate_left; (focus (have e1 := hS.cel q1 (by simp); have e2 := hS.cel q2 (by simp); clear hS; go_simp; rfl)); simp only [List.setIfInBounds_toArray, List.set_cons_succ, List.set_cons_zero])
                      (refine mix_take1 (v := ?_) rfl rfl rfl rfl (fun w hS => ?_) ?_; rotate_left; (focus (clear hS; go_simp; rfl)); simp only [List.setIfInBounds_toArray, List.set_cons_succ, List.set_cons_zero])
                      clear hb2
                      (refine mix_take1 (v := ?_) rfl rfl rfl rfl (fun w hS => ?_) ?_; rotate_left; (focus (clear hS; go_simp; rfl)); simp only [List.setIfInBounds_toArray, List.set_cons_succ, List.set_cons_zero])
                      iterate 11 (refine mix_skipT rfl rfl rfl rfl rfl FC ?_; simp only [List.setIfInBounds_toArray, List.set_cons_succ, List.set_cons_zero])
                      (refine mix_take1 (v := ?_) rfl rfl rfl rfl (fun w hS => ?_) ?_; rotate_left; (focus (clear hS; go_simp; rfl)); simp only [List.setIfInBounds_toArray, List.set_cons_succ, List.set_cons_zero])
                      refine mix_end ?_
                      have HF9 := Lib.hid (HF.out.trans FC)
                      clear FC q1 q2 HF
                      go_wp2_with fail
                      go_roundw
                      case rel => exact ⟨k + 1, by go_num, by omega, HF9⟩
                      case measure => simp [RowKit.intOf]; omega
                    · have hb2 : (!s1.toList == s2.toList) = true := by rw [strs_ne hne]; rfl
                      clear hne
                      refine reg_mix (Fr [] wr) [0, 1, 2, 3, 4, 5, 6, 7, 8, 9, 10, 11, 12, 13, 15, 16, 17, 18, 14, 19, 20, 21] (by kernel_rfl) (by kernel_rfl) (by kernel_rfl) rfl (Fr.drew _ _) ?_
                      have FC : Fr [] wr wr.drew := Fr.drew _ _
                      generalize wr.drew = WC at FC ⊢
                      iterate 8 (refine mix_take1 (v := ?_) rfl rfl rfl rfl (fun w hS => ?_) ?_; rotate_left; (focus (have e1 := hS.cel q1 (by simp); have e2 := hS.cel q2 (by simp); clear hS; go_simp; rfl)); simp only [List.setIfInBounds_toArray, List.set_cons_succ, List.set_cons_zero])
                      (refine mix_take1 (v := ?_) rfl rfl rfl rfl (fun w hS => ?_) ?_; rotate_left; (focus (clear hS; go_simp; rfl)); simp only [List.setIfInBounds_toArray, List.set_cons_succ, List.set_cons_zero])
                      clear hb2
                      (refine mix_take1 (v := ?_) rfl rfl rfl rfl (fun w hS => ?_) ?_; rotate_left; (focus (clear hS; go_simp; rfl)); simp only [List.setIfInBounds_toArray, List.set_cons_succ, List.set_cons_zero])
                      iterate 8 (refine mix_takeg (v := ?_) rfl rfl rfl rfl rfl rfl (fun w hS => ?_) ?_; rotate_left; (focus (have e1 := hS.cel q1 (by simp); have e2 := hS.cel q2 (by simp); clear hS; go_simp; rfl)); simp only [List.setIfInBounds_toArray, List.set_cons_succ, List.set_cons_zero])
                      refine mix_dog rfl rfl rfl rfl rfl (fun K hK => ?_)
                      go_simp
                      refine (C1.out _).mono ?_
                      rintro e wq ⟨rfl, fq⟩
                      have FC := FC.trans fq
                      clear fq
                      refine hK _ _ FC ?_
                      clear hK K
                      try simp only [Act.put, List.setIfInBounds_toArray, List.set_cons_succ, List.set_cons_zero]
                      refine mix_dog rfl rfl rfl rfl rfl (fun K hK => ?_)
                      go_simp
                      refine (C2.out _).mono ?_
                      rintro e wq ⟨rfl, fq⟩
                      have FC := FC.trans fq
                      clear fq
                      refine hK _ _ FC ?_
                      clear hK K
                      try simp only [Act.put, List.setIfInBounds_toArray, List.set_cons_succ, List.set_cons_zero]
                      by_cases hsm : shaB s1 = shaB s2
                      · have hb3 : ((shaB s1).toList == (shaB s2).toList) = true := by rw [hsm, beq_self_eq_true]
                        clear hsm
                        (refine mix_takeg (v := ?_) rfl rfl rfl rfl rfl rfl (fun w hS => ?_) ?_; rotate_left; (focus (clear hS; go_simp; rfl)); simp only [List.setIfInBounds_toArray, List.set_cons_succ, List.set_cons_zero])
                        clear hb3
                        (refine mix_take1 (v := ?_) rfl rfl rfl rfl (fun w hS => ?_) ?_; rotate_left; (focus (clear hS; go_simp; rfl)); simp only [List.setIfInBounds_toArray, List.set_cons_succ, List.set_cons_zero])
                        refine mix_end ?_
                        have HF9 := Lib.hid (HFC.out.trans (HF.out.trans FC))
                        clear FC q1 q2 HF
                        go_wp2_with fail
                        go_ret
                        exact ⟨rfl, HF9.out⟩
                      · have hnx : k ≠ i0 := fun e => hsm (HXk.out e).2
                        have hb3 : ((shaB s1).toList == (shaB s2).toList) = false := strs_ne hsm
                        clear hsm
                        (refine mix_takeg (v := ?_) rfl rfl rfl rfl rfl rfl (fun w hS => ?_) ?_; rotate_left; (focus (clear hS; go_simp; rfl)); simp only [List.setIfInBounds_toArray, List.set_cons_succ, List.set_cons_zero])
                        clear hb3
                        (refine mix_take1 (v := ?_) rfl rfl rfl rfl (fun w hS => ?_) ?_; rotate_left; (focus (clear hS; go_simp; rfl)); simp only [List.setIfInBounds_toArray, List.set_cons_succ, List.set_cons_zero])
                        refine mix_end ?_
                        have HF9 := Lib.hid (HF.out.trans FC)
                        clear FC q1 q2 HF
                        go_wp2_with fail
                        go_roundw
                        case rel => exact ⟨k + 1, by go_num, by omega, HF9⟩
                        case measure => simp [RowKit.intOf]; omega
              · have HColl := Lib.hid (HWay.out.resolve_left (fun h => hml h.2.1))
                clear hc0 HWay
                obtain ⟨i0, hi1, hi2, hne0, heq0⟩ := HColl.out
                have HX0 : Hid (∀ i, (h1 : i < (headsM head0 L).length) → (h2 : i < (headsM head0 M).length) → i = i0 → (headsM head0 L)[i] ≠ (headsM head0 M)[i] ∧ shaB (headsM head0 L)[i] = shaB (headsM head0 M)[i]) := Lib.hid (by
                  intro i h1 h2 e
                  subst e
                  exact ⟨hne0, heq0⟩)
                have hi3 : i0 < L.length := by rw [headsM_len] at hi1; exact hi1
                have hi4 : i0 < M.length := by rw [headsM_len] at hi2; exact hi2
                clear hne0 heq0 HColl hi1 hi2
                go_wp2_with fail
                refine (heads10_c wa wc L wA HWA.out HU.out (by omega)).mono ?_
                rintro e wB ⟨ga, gc, rfl, sB, fB⟩
                have HIB := Lib.hid (HI.out.same fB); have HFB := Lib.hid (HFA.out.trans fB); have HGA := Lib.hid sB
                clear sB fB
                go_wp2_with fail
                refine (heads10_c ia ic M wB HIB.out HM1.out (by omega)).mono ?_
                rintro e wC ⟨gb, gd, rfl, sC, fC⟩
                have HGA2 := Lib.hid (HGA.out.same fC); have HGB := Lib.hid sC; have HFC := Lib.hid (HFB.out.trans fC)
                clear sC fC HGA HIB HFB
                have HlA : Hid ((headsM head0 L).length = L.length) := Lib.hid (headsM_len _ _)
                have HlB : Hid ((headsM head0 M).length = M.length) := Lib.hid (headsM_len _ _)
                have HzA : Hid (∀ r, r ∈ headsM head0 L → r.size ≤ 1000000) := Lib.hid (headsM_small L head0 rfl HU.out)
                have HzB : Hid (∀ r, r ∈ headsM head0 M → r.size ≤ 1000000) := Lib.hid (headsM_small M head0 rfl HM1.out)
                generalize headsM head0 L = PA at *
                generalize headsM head0 M = PB at *
                go_wp2_with fail
                go_loopw [23] (fun iv wr => ∃ k : Nat, iv = .int .i64 k ∧ k ≤ i0 ∧ Hid (Fr [] wC wr)) (fun iv _ => i0 + 1 - (RowKit.intOf iv).toNat)
                case atStart => exact ⟨0, rfl, Nat.zero_le _, Lib.hid (Fr.refl _ _)⟩
                case round =>
                  obtain ⟨k, rfl, hki, HF⟩ := hrel
                  have hka : k < L.length := by omega
                  have hkb : k < M.length := by omega
                  obtain ⟨b1, o1, rfl, hc1⟩ := (HGA2.out.same HF.out).at_ (by omega)
                  obtain ⟨b2, o2, rfl, hc2⟩ := (HGB.out.same HF.out).at_ (by omega)
                  have hkA : k < PA.length := by rw [HlA.out]; exact hka
                  have hkB : k < PB.length := by rw [HlB.out]; exact hkb
                  have q1 : wr.cell? ⟨b1, o1 + k, none⟩ = some (.string PA[k]) := hc1 k _ (by simp [hkA])
                  have q2 : wr.cell? ⟨b2, o2 + k, none⟩ = some (.string PB[k]) := hc2 k _ (by simp [hkB])
                  have HXk : Hid (k = i0 → PA[k] ≠ PB[k] ∧ shaB PA[k] = shaB PB[k]) := Lib.hid (HX0.out k hkA hkB)
                  have C1 := Lib.hid fun W => sum2_c PA[k] (by have := HzA.out _ (List.getElem_mem hkA); omega) W
                  have C2 := Lib.hid fun W => sum2_c PB[k] (by have := HzB.out _ (List.getElem_mem hkB); omega) W
                  clear hc1 hc2
                  generalize PA[k] = s1 at *
                  generalize PB[k] = s2 at *
                  clear hkA hkB
                  go_wp2_with fail
                  by_cases hne : s1 = s2
                  · have hnx : k ≠ i0 := fun e => (HXk.out e).1 hne
                    have hb2 : (!s1.toList == s2.toList) = false := by rw [hne, beq_self_eq_true]; rfl
                    clear hne
                    refine reg_mix (Fr [] wr) [0, 1, 2, 3, 4, 5, 6, 7, 8, 9, 10, 11, 12, 13, 15, 16, 17, 18, 14, 19, 20, 21] (by kernel_rfl) (by kernel_rfl) (by kernel_rfl) rfl (Fr.drew _ _) ?_
                    have FC : Fr [] wr wr.drew := Fr.drew _ _
                    generalize wr.drew = WC at FC ⊢
                    iterate 8 (refine mix_take1 (v := ?_) rfl rfl rfl rfl (fun w hS => ?_) ?_; rotate_left; (focus (have e1 := hS.cel q1 (by simp); have e2 := hS.cel q2 (by simp); clear hS; go_simp; rfl)); simp only [List.setIfInBounds_toArray, List.set_cons_succ, List.set_cons_zero])
                    (refine mix_take1 (v := ?_) rfl rfl rfl rfl (fun w hS => ?_) ?_; rotate_left; (focus (clear hS; go_simp; rfl)); simp only [List.setIfInBounds_toArray, List.set_cons_succ, List.set_cons_zero])
                    clear hb2
                    (refine mix_take1 (v := ?_) rfl rfl rfl rfl (fun w hS => ?_) ?_; rotate_left; (focus (clear hS; go_simp; rfl)); simp only [List.setIfInBounds_toArray, List.set_cons_succ, List.set_cons_zero])
                    iterate 11 (refine mix_skipT rfl rfl rfl rfl rfl FC ?_; simp only [List.setIfInBounds_toArray, List.set_cons_succ, List.set_cons_zero])
                    (refine mix_take1 (v := ?_) rfl rfl rfl rfl (fun w hS => ?_) ?_; rotate_left; (focus (clear hS; go_simp; rfl)); simp only [List.setIfInBounds_toArray, List.set_cons_succ, List.set_cons_zero])
                    refine mix_end ?_
                    have HF9 := Lib.hid (HF.out.trans FC)
                    clear FC q1 q2 HF
                    go_wp2_with fail
                    go_roundw
                    case rel => exact ⟨k + 1, by go_num, by omega, HF9⟩
                    case measure => simp [RowKit.intOf]; omega
                  · have hb2 : (!s1.toList == s2.toList) = true := by rw [strs_ne hne]; rfl
                    clear hne
                    refine reg_mix (Fr [] wr) [0, 1, 2, 3, 4, 5, 6, 7, 8, 9, 10, 11, 12, 13, 15, 16, 17, 18, 14, 19, 20, 21] (by kernel_rfl) (by kernel_rfl) (by kernel_rfl) rfl (Fr.drew _ _) ?_
                    have FC : Fr [] wr wr.drew := Fr.drew _ _
                    generalize wr.drew = WC at FC ⊢
                    iterate 8 (refine mix_take1 (v := ?_) rfl rfl rfl rfl (fun w hS => ?_) ?_; rotate_left; (focus (have e1 := hS.cel q1 (by simp); have e2 := hS.cel q2 (by simp); clear hS; go_simp; rfl)); simp only [List.setIfInBounds_toArray, List.set_cons_succ, List.set_cons_zero])
                    (refine mix_take1 (v := ?_) rfl rfl rfl rfl (fun w hS => ?_) ?_; rotate_left; (focus (clear hS; go_simp; rfl)); simp only [List.setIfInBounds_toArray, List.set_cons_succ, List.set_cons_zero])
                    clear hb2
                    (refine mix_take1 (v := ?_) rfl rfl rfl rfl (fun w hS => ?_) ?_; rotate_left; (focus (clear hS; go_simp; rfl)); simp only [List.setIfInBounds_toArray, List.set_cons_succ, List.set_cons_zero])
                    iterate 8 (refine mix_takeg (v := ?_) rfl rfl rfl rfl rfl rfl (fun w hS => ?_) ?_; rotate_left; (focus (have e1 := hS.cel q1 (by simp); have e2 := hS.cel q2 (by simp); clear hS; go_simp; rfl)); simp only [List.setIfInBounds_toArray, List.set_cons_succ, List.set_cons_zero])
                    refine mix_dog rfl rfl rfl rfl rfl (fun K hK => ?_)
                    go_simp
                    refine (C1.out _).mono ?_
                    rintro e wq ⟨rfl, fq⟩
                    have FC := FC.trans fq
                    clear fq
                    refine hK _ _ FC ?_
                    clear hK K
                    try simp only [Act.put, List.setIfInBounds_toArray, List.set_cons_succ, List.set_cons_zero]
                    refine mix_dog rfl rfl rfl rfl rfl (fun K hK => ?_)
                    go_simp
                    refine (C2.out _).mono ?_
                    rintro e wq ⟨rfl, fq⟩
                    have FC := FC.trans fq
                    clear fq
                    refine hK _ _ FC ?_
                    clear hK K
                    try simp only [Act.put, List.setIfInBounds_toArray, List.set_cons_succ, List.set_cons_zero]
                    by_cases hsm : shaB s1 = shaB s2
                    · have hb3 : ((shaB s1).toList == (shaB s2).toList) = true := by rw [hsm, beq_self_eq_true]
                      clear hsm
                      (refine mix_takeg (v := ?_) rfl rfl rfl rfl rfl rfl (fun w hS => ?_) ?_; rotate_left; (focus (clear hS; go_simp; rfl)); simp only [List.setIfInBounds_toArray, List.set_cons_succ, List.set_cons_zero])
                      clear hb3
                      (refine mix_take1 (v := ?_) rfl rfl rfl rfl (fun w hS => ?_) ?_; rotate_left; (focus (clear hS; go_simp; rfl)); simp only [List.setIfInBounds_toArray, List.set_cons_succ, List.set_cons_zero])
                      refine mix_end ?_
                      have HF9 := Lib.hid (HFC.out.trans (HF.out.trans FC))
                      clear FC q1 q2 HF
                      go_wp2_with fail
                      go_ret
                      exact ⟨rfl, HF9.out⟩
                    · have hnx : k ≠ i0 := fun e => hsm (HXk.out e).2
                      have hb3 : ((shaB s1).toList == (shaB s2).toList) = false := strs_ne hsm
                      clear hsm
                      (refine mix_takeg (v := ?_) rfl rfl rfl rfl rfl rfl (fun w hS => ?_) ?_; rotate_left; (focus (clear hS; go_simp; rfl)); simp only [List.setIfInBounds_toArray, List.set_cons_succ, List.set_cons_zero])
                      clear hb3
                      (refine mix_take1 (v := ?_) rfl rfl rfl rfl (fun w hS => ?_) ?_; rotate_left; (focus (clear hS; go_simp; rfl)); simp only [List.setIfInBounds_toArray, List.set_cons_succ, List.set_cons_zero])
                      refine mix_end ?_
                      have HF9 := Lib.hid (HF.out.trans FC)
                      clear FC q1 q2 HF
                      go_wp2_with fail
                      go_roundw
                      case rel => exact ⟨k + 1, by go_num, by omega, HF9⟩
                      case measure => simp [RowKit.intOf]; omega
            · have hbz : ((c.toNat : Int) == 0) = false := by
                rw [beq_eq_false_iff_ne]
                intro e
                apply hc0
                exact UInt8.toNat_inj.1 (by simpa using e)
              have HColl := Lib.hid (HWay.out.resolve_left (fun h => hc0 h.1))
              clear hc0 HWay
              obtain ⟨i0, hi1, hi2, hne0, heq0⟩ := HColl.out
              have HX0 : Hid (∀ i, (h1 : i < (headsM head0 L).length) → (h2 : i < (headsM head0 M).length) → i = i0 → (headsM head0 L)[i] ≠ (headsM head0 M)[i] ∧ shaB (headsM head0 L)[i] = shaB (headsM head0 M)[i]) := Lib.hid (by
                intro i h1 h2 e
                subst e
                exact ⟨hne0, heq0⟩)
              have hi3 : i0 < L.length := by rw [headsM_len] at hi1; exact hi1
              have hi4 : i0 < M.length := by rw [headsM_len] at hi2; exact hi2
              clear hne0 heq0 HColl hi1 hi2
              go_wp2_with fail
              refine (heads10_c wa wc L wA HWA.out HU.out (by omega)).mono ?_
              rintro e wB ⟨ga, gc, rfl, sB, fB⟩
              have HIB := Lib.hid (HI.out.same fB); have HFB := Lib.hid (HFA.out.trans fB); have HGA := Lib.hid sB
              clear sB fB
              go_wp2_with fail
              refine (heads10_c ia ic M wB HIB.out HM1.out (by omega)).mono ?_
              rintro e wC ⟨gb, gd, rfl, sC, fC⟩
              have HGA2 := Lib.hid (HGA.out.same fC); have HGB := Lib.hid sC; have HFC := Lib.hid (HFB.out.trans fC)
              clear sC fC HGA HIB HFB
              have HlA : Hid ((headsM head0 L).length = L.length) := Lib.hid (headsM_len _ _)
              have HlB : Hid ((headsM head0 M).length = M.length) := Lib.hid (headsM_len _ _)
              have HzA : Hid (∀ r, r ∈ headsM head0 L → r.size ≤ 1000000) := Lib.hid (headsM_small L head0 rfl HU.out)
              have HzB : Hid (∀ r, r ∈ headsM head0 M → r.size ≤ 1000000) := Lib.hid (headsM_small M head0 rfl HM1.out)
              generalize headsM head0 L = PA at *
              generalize headsM head0 M = PB at *
              go_wp2_with fail
              go_loopw [23] (fun iv wr => ∃ k : Nat, iv = .int .i64 k ∧ k ≤ i0 ∧ Hid (Fr [] wC wr)) (fun iv _ => i0 + 1 - (RowKit.intOf iv).toNat)
              case atStart => exact ⟨0, rfl, Nat.zero_le _, Lib.hid (Fr.refl _ _)⟩
              case round =>
                obtain ⟨k, rfl, hki, HF⟩ := hrel
                have hka : k < L.length := by omega
                have hkb : k < M.length := by omega
                obtain ⟨b1, o1, rfl, hc1⟩ := (HGA2.out.same HF.out).at_ (by omega)
                obtain ⟨b2, o2, rfl, hc2⟩ := (HGB.out.same HF.out).at_ (by omega)
                have hkA : k < PA.length := by rw [HlA.out]; exact hka
                have hkB : k < PB.length := by rw [HlB.out]; exact hkb
                have q1 : wr.cell? ⟨b1, o1 + k, none⟩ = some (.string PA[k]) := hc1 k _ (by simp [hkA])
                have q2 : wr.cell? ⟨b2, o2 + k, none⟩ = some (.string PB[k]) := hc2 k _ (by simp [hkB])
                have HXk : Hid (k = i0 → PA[k] ≠ PB[k] ∧ shaB PA[k] = shaB PB[k]) := Lib.hid (HX0.out k hkA hkB)
                have C1 := Lib.hid fun W => sum2_c PA[k] (by have := HzA.out _ (List.getElem_mem hkA); omega) W
                have C2 := Lib.hid fun W => sum2_c PB[k] (by have := HzB.out _ (List.getElem_mem hkB); omega) W
                clear hc1 hc2
                generalize PA[k] = s1 at *
                generalize PB[k] = s2 at *
                clear hkA hkB
                go_wp2_with fail
                by_cases hne : s1 = s2
                · have hnx : k ≠ i0 := fun e => (HXk.out e).1 hne
                  have hb2 : (!s1.toList == s2.toList) = false := by rw [hne, beq_self_eq_true]; rfl
                  clear hne
                  refine reg_mix (Fr [] wr) [0, 1, 2, 3, 4, 5, 6, 7, 8, 9, 10, 11, 12, 13, 15, 16, 17, 18, 14, 19, 20, 21] (by kernel_rfl) (by kernel_rfl) (by kernel_rfl) rfl (Fr.drew _ _) ?_
                  have FC : Fr [] wr wr.drew := Fr.drew _ _
                  generalize wr.drew = WC at FC ⊢
                  iterate 8 (refine mix_take1 (v := ?_) rfl rfl rfl rfl (fun w hS => ?_) ?_; rotate_left; (focus (have e1 := hS.cel q1 (by simp); have e2 := hS.cel q2 (by simp); clear hS; go_simp; rfl)); simp only [List.setIfInBounds_toArray, List.set_cons_succ, List.set_cons_zero])
                  (refine mix_take1 (v := ?_) rfl rfl rfl rfl (fun w hS => ?_) ?_; rotate_left; (focus (clear hS; go_simp; rfl)); simp only [List.setIfInBounds_toArray, List.set_cons_succ, List.set_cons_zero])
                  clear hb2
                  (refine mix_take1 (v := ?_) rfl rfl rfl rfl (fun w hS => ?_) ?_; rotate_left; (focus (clear hS; go_simp; rfl)); simp only [List.setIfInBounds_toArray, List.set_cons_succ, List.set_cons_zero])
                  iterate 11 (refine mix_skipT rfl rfl rfl rfl rfl FC ?_; simp only [List.setIfInBounds_toArray, List.set_cons_succ, List.set_cons_zero])
                  (refine mix_take1 (v := ?_) rfl rfl rfl rfl (fun w hS => ?_) ?_; rotate_left; (focus (clear hS; go_simp; rfl)); simp only [List.setIfInBounds_toArray, List.set_cons_succ, List.set_cons_zero])
                  refine mix_end ?_
                  have HF9 := Lib.hid (HF.out.trans FC)
                  clear FC q1 q2 HF
                  go_wp2_with fail
                  go_roundw
                  case rel => exact ⟨k + 1, by go_num, by omega, HF9⟩
                  case measure => simp [RowKit.intOf]; omega
                · have hb2 : (!s1.toList == s2.toList) = true := by rw [strs_ne hne]; rfl
                  clear hne
                  refine reg_mix (Fr [] wr) [0, 1, 2, 3, 4, 5, 6, 7, 8, 9, 10, 11, 12, 13, 15, 16, 17, 18, 14, 19, 20, 21] (by kernel_rfl) (by kernel_rfl) (by kernel_rfl) rfl (Fr.drew _ _) ?_
                  have FC : Fr [] wr wr.drew := Fr.drew _ _
                  generalize wr.drew = WC at FC ⊢
                  iterate 8 (refine mix_take1 (v := ?_) rfl rfl rfl rfl (fun w hS => ?_) ?_; rotate_left; (focus (have e1 := hS.cel q1 (by simp); have e2 := hS.cel q2 (by simp); clear hS; go_simp; rfl)); simp only [List.setIfInBounds_toArray, List.set_cons_succ, List.set_cons_zero])
                  (refine mix_take1 (v := ?_) rfl rfl rfl rfl (fun w hS => ?_) ?_; rotate_left; (focus (clear hS; go_simp; rfl)); simp only [List.setIfInBounds_toArray, List.set_cons_succ, List.set_cons_zero])
                  clear hb2
                  (refine mix_take1 (v := ?_) rfl rfl rfl rfl (fun w hS => ?_) ?_; rotate_left; (focus (clear hS; go_simp; rfl)); simp only [List.setIfInBounds_toArray, List.set_cons_succ, List.set_cons_zero])
                  iterate 8 (refine mix_takeg (v := ?_) rfl rfl rfl rfl rfl rfl (fun w hS => ?_) ?_; rotate_left; (focus (have e1 := hS.cel q1 (by simp); have e2 := hS.cel q2 (by simp); clear hS; go_simp; rfl)); simp only [List.setIfInBounds_toArray, List.set_cons_succ, List.set_cons_zero])
                  refine mix_dog rfl rfl rfl rfl rfl (fun K hK => ?_)
                  go_simp
                  refine (C1.out _).mono ?_
                  rintro e wq ⟨rfl, fq⟩
                  have FC := FC.trans fq
                  clear fq
                  refine hK _ _ FC ?_
                  clear hK K
                  try simp only [Act.put, List.setIfInBounds_toArray, List.set_cons_succ, List.set_cons_zero]
                  refine mix_dog rfl rfl rfl rfl rfl (fun K hK => ?_)
                  go_simp
                  refine (C2.out _).mono ?_
                  rintro e wq ⟨rfl, fq⟩
                  have FC := FC.trans fq
                  clear fq
                  refine hK _ _ FC ?_
                  clear hK K
                  try simp only [Act.put, List.setIfInBounds_toArray, List.set_cons_succ, List.set_cons_zero]
                  by_cases hsm : shaB s1 = shaB s2
                  · have hb3 : ((shaB s1).toList == (shaB s2).toList) = true := by rw [hsm, beq_self_eq_true]
                    clear hsm
                    (refine mix_takeg (v := ?_) rfl rfl rfl rfl rfl rfl (fun w hS => ?_) ?_; rotate_left; (focus (clear hS; go_simp; rfl)); simp only [List.setIfInBounds_toArray, List.set_cons_succ, List.set_cons_zero])
                    clear hb3
                    (refine mix_take1 (v := ?_) rfl rfl rfl rfl (fun w hS => ?_) ?_; rotate_left; (focus (clear hS; go_simp; rfl)); simp only [List.setIfInBounds_toArray, List.set_cons_succ, List.set_cons_zero])
                    refine mix_end ?_
                    have HF9 := Lib.hid (HFC.out.trans (HF.out.trans FC))
                    clear FC q1 q2 HF
                    go_wp2_with fail
                    go_ret
                    exact ⟨rfl, HF9.out⟩
                  · have hnx : k ≠ i0 := fun e => hsm (HXk.out e).2
                    have hb3 : ((shaB s1).toList == (shaB s2).toList) = false := strs_ne hsm
                    clear hsm
                    (refine mix_takeg (v := ?_) rfl rfl rfl rfl rfl rfl (fun w hS => ?_) ?_; rotate_left; (focus (clear hS; go_simp; rfl)); simp only [List.setIfInBounds_toArray, List.set_cons_succ, List.set_cons_zero])
                    clear hb3
                    (refine mix_take1 (v := ?_) rfl rfl rfl rfl (fun w hS => ?_) ?_; rotate_left; (focus (clear hS; go_simp; rfl)); simp only [List.setIfInBounds_toArray, List.set_cons_succ, List.set_cons_zero])
                    refine mix_end ?_
                    have HF9 := Lib.hid (HF.out.trans FC)
                    clear FC q1 q2 HF
                    go_wp2_with fail
                    go_roundw
                    case rel => exact ⟨k + 1, by go_num, by omega, HF9⟩
                    case measure => simp [RowKit.intOf]; omega

end Go.Proofs.YtbogljpafpkikaaGreatDoor
