/-
  The walk of DiskCut.
-/
import Derived.Test.YtanjjgodlgmfcaaL9e
namespace Go.Proofs.Ytanjjgodlgmfcaa
open Go.RowKit Go.Lib

/-- A disk with a cut after n writes, of which k have been made. -/
structure Dk.CutAt (D : Dk) (n sz k : Nat) : Prop where
  left : D.left = n - k
  off : D.off = (n - k == 0)
  coh : D.coh
  dur : D.dur.length = sz
  vis : D.vis.length = sz
  pend : D.pend.length = k
  le : k ≤ n

theorem cutAt_new (n sz : Nat) : ((Dk.new sz).cut n).CutAt n sz 0 := ⟨by simp [Dk.cut], by simp [Dk.cut], rfl, by simp [Dk.cut, Dk.new], by simp [Dk.cut, Dk.new], by simp [Dk.cut, Dk.new], by omega⟩
theorem cut_new (n sz : Nat) : (Dk.new sz).cutE ((n : Int) + 5) = 0 ∧ ((Dk.new sz).cutD ((n : Int) + 5)).cutE n = 0 ∧ ((Dk.new sz).cutD ((n : Int) + 5)).cutD n = (Dk.new sz).cut n := by
  have h1 : ¬ ((n : Int) + 5 < 0) := by omega
  have h2 : ¬ ((n : Int) < 0) := by omega
  have e : (Dk.new sz).cutD ((n : Int) + 5) = (Dk.new sz).cut (n + 5) := by
    simp only [Dk.cutD, Dk.new, Bool.false_eq_true, if_false, h1]
    rw [show ((n : Int) + 5).toNat = n + 5 by omega]
  have o : ((Dk.new sz).cut (n + 5)).off = false := by simp [Dk.cut]
  refine ⟨by simp [Dk.cutE, Dk.new]; omega, ?_, ?_⟩
  · rw [e]; simp [Dk.cutE, o]
  · rw [e]; simp only [Dk.cutD, o, Bool.false_eq_true, if_false, h2]; simp [Dk.cut]

theorem cutAt_write {D : Dk} {n sz k o : Nat} {s : ByteArray} (h : D.CutAt n sz k) (hk : k < n) (hs : o + s.size ≤ sz) : D.writeE o s = 0 ∧ (D.writeD o s).CutAt n sz (k + 1) ∧ (D.writeD o s).vis = paste D.vis o s.data.toList := by
  have ho : D.off = false := by rw [h.off]; simp; omega
  have hi : insB D.dur.length o s.size = true := by simp [insB, h.dur]; omega
  have hl : (D.put o s).left = n - k := h.left
  have e : D.writeD o s = { D.put o s with left := n - k - 1, off := n - k - 1 == 0 } := by
    have h0 : ¬ (n - k = 0) := by omega
    simp only [Dk.writeD, ho, hi, Bool.false_eq_true, if_false, if_true, Dk.write, Dk.use, hl, h0, Int.toNat_natCast]
  refine ⟨by simp [Dk.writeE, ho, hi], ?_, by rw [e]; rfl⟩
  rw [e]
  refine ⟨by show n - k - 1 = n - (k + 1); omega, by show (n - k - 1 == 0) = (n - (k + 1) == 0); rw [show n - k - 1 = n - (k + 1) by omega], coh_put h.coh o s, h.dur, ?_, by simp [Dk.put]; exact h.pend, by omega⟩
  simp only [Dk.put]
  rw [paste_length _ _ _ (by rw [h.vis]; simpa using hs)]
  exact h.vis
theorem cutAt_off {D : Dk} {n sz : Nat} (h : D.CutAt n sz n) : D.off = true := by rw [h.off]; simp

set_option maxRecDepth 1000000 in
set_option maxHeartbeats 8000000 in
theorem diskCut_c (size nn : Int) (a : Option Addr) (cap : Nat) (l : List Wp) (w : World) (h1 : -9223372036854775808 ≤ size) (h2 : size ≤ 9223372036854775807) (g1 : -9223372036854775808 ≤ nn) (g2 : nn ≤ 9223372036854775807) (hr : RowW w a cap l) :
    Calls Try.prog 10 #[.int .i64 size, .int .i64 nn, .slice a l.length cap] w fun e w' => e = .returned (.bool true) ∧ Below w.heap.size w w' := by
  have hlm : l.length ≤ 9223372036854775807 := Nat.le_trans hr.le hr.max
  have cS := Lib.hid (sane_c w)
  have hp := pickI_bound size 100 (by omega)
  have cP := Lib.hid (fun w => pick_any size 100 w h1 h2 (by omega) (by omega))
  generalize pickI size 100 = sz at *
  obtain ⟨m, rfl⟩ := Int.eq_ofNat_of_zero_le hp.1
  have hpn := pickI_bound nn 20 (by omega)
  have cP2 := Lib.hid (fun w => pick_any nn 20 w g1 g2 (by omega) (by omega))
  generalize pickI nn 20 = nz at *
  obtain ⟨n, rfl⟩ := Int.eq_ofNat_of_zero_le hpn.1
  have hn1 : m + 1 ≤ 100 := by omega
  have hn2 : n < 20 := by omega
  have cN := Lib.hid (fun w => new_own (m + 1) w (by omega) (by omega))
  have en : ((m + 1 : Nat) : Int) = 1 + (m : Int) := by omega
  have hmk := fun w => run_make_row' (P := Try.prog) 40 5 (.int .u8 0) 1 Try.underlying40 infoB rfl .i64 .i64 (m + 1) (by omega) (by omega) w
  rw [en] at cN
  simp only [en] at hmk
  have HR := Lib.hid hr; clear hr
  have Hen := Lib.hid en; clear en
  have HC := Lib.hid (cut_new n (m + 1))
  go_enter Try.func10, Try.ntmps10
  go_wp2_with fail
  refine cS.out.mono ?_
  rintro e w1 ⟨rfl, f1⟩
  go_wp2_with fail
  refine (cP.out _).mono ?_
  rintro e w1b ⟨rfl, rfl⟩
  go_wp2_with fail
  refine (cP2.out _).mono ?_
  rintro e w1b ⟨rfl, rfl⟩
  go_wp2_with fail
  refine (cN.out _).mono ?_
  rintro e w2 ⟨b, fp, rfl, o1⟩
  have O1 : OwnX w w2 b fp (Dk.new (m + 1)) [] := ⟨o1.older f1, by simp⟩
  clear o1
  have cC1 := cutX O1 ((n : Int) + 5) (by omega)
  rw [HC.out.1] at cC1
  have CC1 := Lib.hid cC1; clear cC1 O1
  go_wp2_with fail
  refine CC1.out.mono ?_
  rintro e w3 ⟨rfl, fp3, o3, _⟩
  have cC2 := cutX o3 n (by omega)
  rw [HC.out.2.1, HC.out.2.2] at cC2
  have CC2 := Lib.hid cC2; clear cC2 o3
  go_wp2_with fail
  refine CC2.out.mono ?_
  rintro e w4 ⟨rfl, fp4, o4, _⟩
  have O4 := Lib.hid o4; clear o4
  have Hct := Lib.hid (cutAt_new n (m + 1))
  have hv0 : Hid (((Dk.new (m + 1)).cut n).vis = List.replicate (m + 1) 0) := Lib.hid rfl
  generalize (Dk.new (m + 1)).cut n = D0 at *
  clear CC1 CC2 HC f1
  go_wp2
  have O5 : Hid (OwnX w (w4.alloc (.cells (madeCells #[Value.int .u8 0] (m + 1)) 5)) b fp4 D0 [w4.heap.size]) := Lib.hid
    ((O4.out.same (Fr.alloc _ _ _)).with fun k hk => by simp only [List.mem_singleton] at hk; subst hk; exact O4.out.newer (Nat.le_refl _) (by simp))
  have B5 : Hid (BytesAt (w4.alloc (.cells (madeCells #[Value.int .u8 0] (m + 1)) 5)) w4.heap.size 5 D0.vis) := Lib.hid (by rw [hv0.out]; exact bytes_new _ _)
  clear O4
  go_loopw [11, 12] (fun v i wr => ∃ (k : Nat) (fp : List Nat) (D : Dk), k ≤ l.length ∧ k ≤ 40 ∧ i = .int .i64 k ∧ Hid (wr.ownsRow 0 3 1 v (min k n) ((iotaI (min k n)).map (Value.int .i64))) ∧ Hid (OwnX w wr b fp D (w4.heap.size :: v.ownBlock.toList)) ∧ Hid (v.ownBlock ≠ some w4.heap.size) ∧ Hid (BytesAt wr w4.heap.size 5 D.vis) ∧ Hid (D.CutAt n (m + 1) (min k n))) (fun _ i _ => l.length - (intOf i).toNat)
  case atStart => exact ⟨0, fp4, D0, Nat.zero_le _, by omega, rfl, Lib.hid ⟨by simp [iotaI], .inl ⟨rfl, by omega⟩⟩, O5, Lib.hid (by simp [Value.ownBlock]), B5, Lib.hid (by rw [show min 0 n = 0 by omega]; exact Hct.out)⟩
  case round =>
    obtain ⟨k, fp, D, hk, hk40, rfl, HV, HX, HNE, HB, HD⟩ := hrel
    obtain ⟨va, vc, rfl⟩ := ownsRow_slice HV.out
    by_cases hlt : k < l.length ∧ k < 40
    · obtain ⟨hlt, h40⟩ := hlt
      obtain ⟨b', off', ha, hb', hcs⟩ := HR.out.cells (by omega)
      subst ha
      have hbel := HX.out.own.fr.below
      obtain ⟨q0, q1, q2⟩ := hcs k hlt
      have e0 := (hbel.cell (p := ⟨b', off' + k * 3, none⟩) hb').trans q0
      have e1 := (hbel.cell (p := ⟨b', off' + k * 3 + 1, none⟩) hb').trans q1
      have e2 := (hbel.cell (p := ⟨b', off' + k * 3 + 2, none⟩) hb').trans q2
      have hok := HR.out.ok _ (List.getElem_mem hlt)
      clear hcs q0 q1 q2 hbel
      generalize l[k] = x at *
      have cF := Lib.hid (fun w => fits_c x (m + 1) w hok (by omega))
      rw [Hen.out] at cF
      have hft := fitW_fits x (m + 1)
      generalize (fitW x (m + 1)).1 = o at *
      generalize (fitW x (m + 1)).2 = s at *
      go_wp2_with (first | (go_at_call 26; refine (cF.out _).mono ?_; rintro e w5 ⟨rfl, f5⟩; have F5 := Lib.hid f5; clear f5))
      generalize x.sync = y at *
      have X5 := Lib.hid (HX.out.same (F5.out.trans (Fr.alloc _ _ (.cells #[.int .i64 o, .string s, .bool y] 53))))
      have hny := (HX.out.same F5.out).own.young (Nat.le_refl _)
      have hnv := Lib.hid (heap_alloc_new w5 (.cells #[.int .i64 o, .string s, .bool y] 53))
      have hss : s.size ≤ 100 := by omega
      have B5' := Lib.hid ((F5.out.trans (Fr.alloc _ _ (.cells #[.int .i64 o, .string s, .bool y] 53))).keep HB.out (by simp))
      have V5' := Lib.hid (ownsRow_keep HV.out (fun g hg => (F5.out.trans (Fr.alloc _ _ (.cells #[.int .i64 o, .string s, .bool y] 53))).block g (ownsRow_lt HV.out hg) (by simp)))
      have hbb : w4.heap.size < w5.heap.size := Nat.lt_of_lt_of_le (blk_lt HB.out) F5.out.size
      have hvg : ∀ g, (Value.slice va (min k n) vc).ownBlock = some g → g < w5.heap.size := fun g hg => Nat.lt_of_lt_of_le (ownsRow_lt HV.out hg) F5.out.size
      have Hvg := Lib.hid hvg; clear hvg
      have cW := writeX X5.out o s (by omega) (by omega) (by omega) (by have := HD.out.pend; have := HD.out.le; omega)
      by_cases hkn : k < n
      · have ek : min k n = k := by omega
        rw [ek] at HV HD V5' Hvg cW HNE HX X5
        rw [ek]
        have hcw := cutAt_write HD.out hkn hft
        rw [hcw.1] at cW
        have HW := Lib.hid hcw.2; clear hcw
        have CW := Lib.hid cW; clear cW
        refine CW.out.mono ?_
        rintro e w6 ⟨rfl, fp6, o6, f6⟩
        have O6 := Lib.hid o6; have F6 := Lib.hid f6; clear o6 f6
        have V6 := Lib.hid (F6.out.fr.keep hnv.out hny)
        have t0 : w6.cell? ⟨w5.heap.size, 0, none⟩ = some (.int .i64 o) := cell_of_blk V6.out 0
        have t1 : w6.cell? ⟨w5.heap.size, 1, none⟩ = some (.string s) := cell_of_blk V6.out 1
        have B6 := Lib.hid ((X5.out.kept F6.out (by simp)).trans B5'.out)
        have R6 := Lib.hid (ownsRow_keep V5'.out (fun g hg => X5.out.kept F6.out (by simp [hg])))
        clear CW
        have cPu := Lib.hid (put_c w4.heap.size (m + 1) o s D.vis w6 B6.out HD.out.vis hft (by omega))
        generalize D.writeD o s = D6 at *
        go_wp2_with (first | (go_at_call 27; refine cPu.out.mono ?_; rintro e w7 ⟨rfl, f7, b7⟩; have F7 := Lib.hid f7; have B7 := Lib.hid b7; clear f7 b7; have R7 := Lib.hid (ownsRow_keep R6.out (fun g hg => F7.out.block g (ownsRow_lt R6.out hg) (by simp only [List.mem_singleton]; exact fun e => HNE.out (e ▸ hg))))) | ((with_reducible refine wpList_of_wp (o := ⟨some 82, _, _, _, _, _⟩) rfl (fun K hK => ?_)); refine wp_append_blk (.tmp 79) (.tmp 81) 37 3 (.int .i64 0) 1 8 rfl Try.underlying37 infoI rfl (by decide) (.slice va k vc) k _ rfl (by exact ownsRow_keep R7.out (fun g hg => Below.heap_alloc _ _ _ (ownsRow_lt R7.out hg))) w7.heap.size 1 1 #[.int .i64 k] _ _ rfl (heap_alloc_new _ _) rfl (by simp [Value.oneCell']) (by decide) (by omega) (by omega) (fun g cap2 w9 x1 x2 x3 => hK _ _ ?_); have X1 := Lib.hid x1; have X2 := Lib.hid x2; have X3 := Lib.hid x3; clear x1 x2 x3 hK K))
        go_roundw
        case rel =>
          have O7 := (O6.out.fr F7.out (by simp)).same (Fr.alloc [] w7 (.cells #[.int .i64 k] 3))
          have O9 := O7.fr X2.out (fun q hq => by simp only [List.mem_cons]; exact .inr hq)
          have hg9 : g < w9.heap.size := ownsRow_lt X1.out rfl
          have e1 : min (k + 1) n = k + 1 := by omega
          refine ⟨k + 1, fp6, D6, by omega, by omega, by go_num, Lib.hid (by rw [e1, iotaI_succ]; simpa using X1.out), Lib.hid (O9.with fun q hq => ?_), Lib.hid ?_, Lib.hid ?_, Lib.hid (by rw [e1]; exact HW.out.1)⟩
          · simp only [List.mem_cons, Value.ownBlock, Option.toList_some, List.not_mem_nil, or_false] at hq
            rcases hq with rfl | rfl
            · exact O9.sep _ (by simp)
            · rcases X3.out with h | h
              · exact O9.sep _ (by simp [h])
              · rw [h] at hg9 ⊢
                exact O7.newer (by simp) hg9
          · intro hq
            have hgq : g = w4.heap.size := by simpa [Value.ownBlock] using hq
            rcases X3.out with h | h
            · exact HNE.out (by rw [h, hgq])
            · have := F6.out.fr.size; have := F7.out.size; simp at *; omega
          · rw [HW.out.2]
            exact X2.out.keep (heap_alloc_old _ B7.out) (fun hm => HNE.out (by simpa using hm))
        case measure => simp [intOf]; omega
      · have ek : min k n = n := by omega
        rw [ek] at HV HD V5' Hvg cW HNE HX X5
        rw [ek]
        have hof := cutAt_off HD.out
        rw [show D.writeE o s = 91 by simp [Dk.writeE, hof], show D.writeD o s = D by simp [Dk.writeD, hof]] at cW
        have CW := Lib.hid cW; clear cW
        refine CW.out.mono ?_
        rintro e w6 ⟨rfl, fp6, o6, f6⟩
        have O6 := Lib.hid o6; have F6 := Lib.hid f6; clear o6 f6 CW
        have B6 := Lib.hid ((X5.out.kept F6.out (by simp)).trans B5'.out)
        have R6 := Lib.hid (ownsRow_keep V5'.out (fun g hg => X5.out.kept F6.out (by simp [hg])))
        go_wp2_with fail
        go_roundw
        case rel =>
          have e1 : min (k + 1) n = n := by omega
          exact ⟨k + 1, fp6, D, by omega, by omega, by go_num, Lib.hid (by rw [e1]; exact R6.out), O6, HNE, B6, Lib.hid (by rw [e1]; exact HD.out)⟩
        case measure => simp [intOf]; omega
    · by_cases hkn : k < n
      · have hkl : ¬ k < l.length := by omega
        have ek : min k n = k := by omega
        rw [ek] at HV HD HNE HX
        rw [ek]
        have ho : D.off = false := by rw [HD.out.off]; simp; omega
        have cY := syncX HX.out
        rw [show D.syncE = 0 by simp [Dk.syncE, ho]] at cY
        have CY := Lib.hid cY; clear cY ho hlt
        go_wp2_with (first | (go_at_call 23; refine CY.out.mono ?_; rintro e w6 ⟨rfl, fp6, o6, f6⟩; have O6 := Lib.hid o6; clear o6 f6))
        go_ret
        exact ⟨rfl, O6.out.own.fr.below⟩
      · have ek : min k n = n := by omega
        rw [ek] at HV HD HNE HX
        rw [ek]
        have hof := cutAt_off HD.out
        have cR0 := read_own HX.out.own 0 0 (by omega) (by omega) (by omega) (by omega)
        rw [show D.readE 0 0 = 91 by simp [Dk.readE, hof], show D.readS 0 0 = [] by simp [Dk.readS, hof]] at cR0
        have CR0 := Lib.hid cR0
        have cY := syncX HX.out
        rw [show D.syncE = 91 by simp [Dk.syncE, hof], show D.syncD = D by simp [Dk.syncD, hof]] at cY
        have CY := Lib.hid cY
        have ec3 : ∀ D : Dk, D.off = true → D.cutE 3 = 91 ∧ D.cutD 3 = D := fun D h => ⟨by simp [Dk.cutE, h], by simp [Dk.cutD, h]⟩
        have EC3 := Lib.hid (ec3 D hof); clear ec3
        have hcoh := HD.out.coh
        have hpn := HD.out.pend
        have hca := crash_all hcoh
        rw [hpn] at hca
        have HCA := Lib.hid hca
        have hru := read_up (D := ⟨false, 0, D.vis, D.vis, []⟩) ⟨rfl, rfl⟩ rfl
        rw [HD.out.vis, Hen.out] at hru
        have HRU := Lib.hid hru
        have hwu := write_up (D := ⟨false, 0, D.vis, D.vis, []⟩) (o := 0) (s := ⟨#[120]⟩) ⟨rfl, rfl⟩ (by show 0 + 1 ≤ D.vis.length; rw [HD.out.vis]; omega)
        have HWU := Lib.hid hwu
        have HPN := Lib.hid hpn
        clear cR0 cY hca hru hcoh hwu hpn hof
        have hkk : ¬ (k < l.length) ∨ (k < l.length ∧ 40 ≤ k) := by omega
        clear hlt
        rcases hkk with hkk | ⟨hkk, hkk2⟩
        all_goals
          go_wp2_with fail
          refine CR0.out.mono ?_
          rintro e w6 ⟨rfl, rfl⟩
          go_wp2_with fail
          refine CY.out.mono ?_
          rintro e w6 ⟨rfl, fp6, o6, f6⟩
          have O6 := Lib.hid o6
          have B6 := Lib.hid ((HX.out.kept f6 (by simp)).trans HB.out)
          have R6 := Lib.hid (ownsRow_keep HV.out (fun g hg => HX.out.kept f6 (by simp [hg])))
          clear o6 f6
          have cC := cutX O6.out 3 (by omega)
          rw [EC3.out.1, EC3.out.2] at cC
          have CC := Lib.hid cC; clear cC
          go_wp2_with fail
          refine CC.out.mono ?_
          rintro e w7 ⟨rfl, fp7, o7, f7⟩
          have O7 := Lib.hid o7
          have B7 := Lib.hid ((O6.out.kept f7 (by simp)).trans B6.out)
          have R7 := Lib.hid (ownsRow_keep R6.out (fun g hg => O6.out.kept f7 (by simp [hg])))
          clear o7 f7
          have cPe := pending_own O7.out.own
          rw [HPN.out] at cPe
          have CPe := Lib.hid cPe; clear cPe
          have cSz := size_own O7.out.own
          rw [HD.out.dur, Hen.out] at cSz
          have CSz := Lib.hid cSz; clear cSz
          have hI := intsB_of_row (xs := iotaI n) (by rw [iotaI_length]; exact R7.out)
          have cX := crashX O7.out _ (iotaI n) (-1) hI (by rw [iotaI_length]; omega) (fun x hx => by have := iotaI_mem hx; omega) (by omega) (by omega)
          rw [HCA.out] at cX
          have CX := Lib.hid cX; clear cX hI
          go_wp2_with (first | (go_at_call 17; refine CPe.out.mono ?_; rintro e w8 ⟨rfl, rfl⟩) | (go_at_call 16; refine CSz.out.mono ?_; rintro e w8 ⟨rfl, rfl⟩) | (go_at_call 25; refine CX.out.mono ?_; rintro e w8 ⟨rfl, fp8, o8, f8⟩; have O8 := Lib.hid o8; have B8 := Lib.hid ((O7.out.kept f8 (by simp)).trans B7.out); clear o8 f8))
          have cR8 := read_own O8.out.own 0 (1 + m) (by omega) (by omega) (by omega) (by omega)
          rw [HRU.out.1, HRU.out.2] at cR8
          have CR8 := Lib.hid cR8; clear cR8
          have cW8 : Calls Try.prog 21 #[.pointer (some ⟨b, 0, none⟩), .int .i64 0, .string ⟨#[120]⟩] w8 (OwnXU w w8 b fp8 (.int .i64 (Dk.writeE ⟨false, 0, D.vis, D.vis, []⟩ (0 : Nat) ⟨#[120]⟩)) (Dk.writeD ⟨false, 0, D.vis, D.vis, []⟩ (0 : Nat) ⟨#[120]⟩) _) := writeX O8.out 0 ⟨#[120]⟩ (by omega) (by omega) (by decide) (by simp)
          rw [HWU.out.1, HWU.out.2] at cW8
          have CW8 := Lib.hid cW8; clear cW8
          go_wp2_with (first | (go_at_call 14; refine CR8.out.mono ?_; rintro e w9 ⟨rfl, rfl⟩) | ((with_reducible refine wpList_of_wpg (o := ⟨some 157, _, _, _, _, _⟩) ?_ (fun K hK => ?_)); (first | rfl | simp [Region.wanted, yielded]); refine wp_bytes_all (.tmp 156) 40 9 5 rfl Try.underlying40 Try.underlying5 Try.underlying9 w4.heap.size (m + 1) (m + 1) D.vis 5 rfl B8.out HD.out.vis (hK _ _ ?_)) | (go_at_call 21; refine CW8.out.mono ?_; rintro e w10 ⟨rfl, fp10, o10, f10⟩; have O10 := Lib.hid o10; clear o10 f10) | (go_at_call 23; refine (syncX O10.out).mono ?_; rintro e w11 ⟨rfl, fp11, o11, f11⟩; have O11 := Lib.hid o11; clear o11 f11))
          go_ret
          exact ⟨rfl, O11.out.own.fr.below⟩

set_option maxRecDepth 100000 in
theorem walk_DiskCut {H : Type} {enc : TypeId × Value → H} {base : Nat} (W : World) {v0 v1 v2 : Value} {d0 d1 d2 : DataW H} {p0 p1 p2 : List MemPlace}
    (k0 : Value.okWide Try.prog W .any base 3 v0) (h0 : DataW.Trod enc Try.prog W 0 (fun _ => true) true 3 v0 d0 p0)
    (k1 : Value.okWide Try.prog W .any base 3 v1) (h1 : DataW.Trod enc Try.prog W 0 (fun _ => true) true 3 v1 d1 p1)
    (k2 : Value.okWide Try.prog W .any base 51 v2) (h2 : DataW.Trod enc Try.prog W 0 (fun _ => true) true 51 v2 d2 p2) :
    Calls Try.prog 10 #[v0, v1, v2] W fun e W' => e = .returned (.bool true) ∧ Below W.heap.size W W' := by
  obtain ⟨a0, rfl, l0, u0⟩ := open_i64 Try.underlying3 k0 h0
  obtain ⟨a1, rfl, l1, u1⟩ := open_i64 Try.underlying3 k1 h1
  obtain ⟨a, cap, l, rfl, hr⟩ := rowW_of_open k2 h2
  exact diskCut_c a0 a1 a cap l W l0 u0 l1 u1 hr

end Go.Proofs.Ytanjjgodlgmfcaa
