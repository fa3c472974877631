/-
  The walk of DiskAllSurvive.
-/
import Derived.Test.YtanjjgodlgmfcaaL9d
namespace Go.Proofs.Ytanjjgodlgmfcaa
open Go.RowKit Go.Lib

set_option maxRecDepth 1000000 in
set_option maxHeartbeats 4000000 in
theorem allSurvive_c (size : Int) (a : Option Addr) (cap : Nat) (l : List Wp) (w : World) (h1 : -9223372036854775808 ≤ size) (h2 : size ≤ 9223372036854775807) (hr : RowW w a cap l) :
    Calls Try.prog 9 #[.int .i64 size, .slice a l.length cap] w fun e w' => e = .returned (.bool true) ∧ Below w.heap.size w w' := by
  have hlm : l.length ≤ 9223372036854775807 := Nat.le_trans hr.le hr.max
  have cS := Lib.hid (sane_c w)
  have hp := pickI_bound size 300 (by omega)
  have cP := Lib.hid (fun w => pick_any size 300 w h1 h2 (by omega) (by omega))
  generalize pickI size 300 = sz at *
  obtain ⟨m, rfl⟩ := Int.eq_ofNat_of_zero_le hp.1
  have hn1 : m + 1 ≤ 300 := by omega
  have cN := Lib.hid (fun w => new_own (m + 1) w (by omega) (by omega))
  have en : ((m + 1 : Nat) : Int) = 1 + (m : Int) := by omega
  rw [en] at cN
  have HR := Lib.hid hr; clear hr
  have Hen := Lib.hid en; clear en
  go_enter Try.func9, Try.ntmps9
  go_wp2_with (first | (go_at_call 12; refine cS.out.mono ?_; rintro e w1 ⟨rfl, f1⟩) | (go_at_call 15; refine (cP.out _).mono ?_; rintro e w2 ⟨rfl, rfl⟩) | (go_at_call 13; refine (cN.out _).mono ?_; rintro e w2 ⟨b, fp, rfl, o1⟩; have O1 := Lib.hid o1; clear o1))
  have HO2 := Lib.hid (O1.out.older f1); clear O1 f1
  go_loopw [8] (fun i wr => ∃ (k : Nat) (fp : List Nat) (D : Dk), k ≤ l.length ∧ k ≤ 60 ∧ i = .int .i64 k ∧ Hid (Own w wr b fp D) ∧ Hid (D.Fine (m + 1) k)) (fun i _ => l.length - (intOf i).toNat)
  case atStart => exact ⟨0, fp, _, Nat.zero_le _, by omega, rfl, HO2, Lib.hid (fine_new _)⟩
  case round =>
    obtain ⟨k, fp, D, hk, hk60, rfl, HO, HD⟩ := hrel
    by_cases hlt : k < l.length ∧ k < 60
    · obtain ⟨hlt, h60⟩ := hlt
      obtain ⟨b', off', ha, hb', hcs⟩ := HR.out.cells (by omega)
      subst ha
      have hbel := HO.out.fr.below
      obtain ⟨q0, q1, q2⟩ := hcs k hlt
      have e0 := (hbel.cell (p := ⟨b', off' + k * 3, none⟩) hb').trans q0
      have e1 := (hbel.cell (p := ⟨b', off' + k * 3 + 1, none⟩) hb').trans q1
      have e2 := (hbel.cell (p := ⟨b', off' + k * 3 + 2, none⟩) hb').trans q2
      have hok := HR.out.ok _ (List.getElem_mem hlt)
      clear hcs q0 q1 q2 hbel
      generalize l[k] = x at *
      have cF := Lib.hid (fun w => fits_c x (m + 1) w hok (by omega))
      rw [Hen.out] at cF
      have hft := fitW_fits x (m + 1)
      generalize (fitW x (m + 1)).1 = o at *
      generalize (fitW x (m + 1)).2 = s at *
      go_wp2_with (first | (go_at_call 26; refine (cF.out _).mono ?_; rintro e w4 ⟨rfl, f4⟩; have O4 := Lib.hid (HO.out.same f4); clear f4))
      generalize x.sync = y at *
      have O4b := Lib.hid (O4.out.same (Fr.alloc _ _ (.cells #[.int .i64 o, .string s, .bool y] 53)))
      have hyo := O4.out.young (Nat.le_refl _)
      have hnv := Lib.hid (heap_alloc_new w4 (.cells #[.int .i64 o, .string s, .bool y] 53))
      have hss : s.size ≤ 300 := by omega
      have cW := writeU O4b.out o s (by omega) (by omega) (by omega) (by have := HD.out.pend; omega)
      have hwu := write_up HD.out.up (show o + s.size ≤ D.dur.length by rw [HD.out.dur]; exact hft)
      rw [hwu.1, hwu.2] at cW
      refine cW.mono ?_
      rintro e w6 ⟨rfl, fp6, o6, f6⟩
      have O6 := Lib.hid o6
      have V6 := Lib.hid (f6.fr.keep hnv.out hyo)
      have t2 : w6.cell? ⟨w4.heap.size, 2, none⟩ = some (.bool y) := cell_of_blk V6.out 2
      have U6 := Lib.hid (fine_put HD.out hft)
      clear o6 f6 cW hwu O4b hnv
      generalize D.put o s = D6 at *
      cases y with
      | false =>
        go_wp2_with fail
        go_roundw
        case rel => exact ⟨k + 1, fp6, D6, by omega, by omega, by go_num, O6, U6⟩
        case measure => simp [intOf]; omega
      | true =>
        have cY := syncU O6.out
        have hsu := sync_up U6.out.up
        rw [hsu.1, hsu.2.1] at cY
        have CY := Lib.hid cY; clear cY hsu
        go_wp2_with (first | (go_at_call 23; refine CY.out.mono ?_; rintro e w7 ⟨rfl, fp7, o7, f7⟩; have O7 := Lib.hid o7; clear o7 f7))
        go_roundw
        case rel => exact ⟨k + 1, fp7, D6.sync, by omega, by omega, by go_num, O7, Lib.hid (fine_sync U6.out)⟩
        case measure => simp [intOf]; omega
    · have hd : (decide ((k : Int) < (l.length : Int)) && decide ((k : Int) < 60)) = false := by simp; omega
      have cR := read_own HO.out 0 (1 + m) (by omega) (by omega) (by omega) (by omega)
      have hru := read_up HD.out.up (by rw [HD.out.dur, HD.out.vis])
      rw [HD.out.dur, Hen.out] at hru
      rw [hru.1, hru.2] at cR
      have CR := Lib.hid cR; clear cR hru
      have hkk : ¬ (k < l.length) ∨ (k < l.length ∧ 60 ≤ k) := by omega
      clear hd
      rcases hkk with hkk | ⟨hkk, hkk2⟩
      all_goals
        go_wp2_with (first | (go_at_call 14; refine CR.out.mono ?_; rintro e w7 ⟨rfl, rfl⟩))
        go_loopw [12, 13] (fun v i wr2 => ∃ k' : Nat, k' ≤ D.pend.length ∧ i = .int .i64 k' ∧ Hid (wr2.ownsRow 0 3 1 v k' ((iotaI k').map (Value.int .i64))) ∧ Hid (Own w wr2 b fp D) ∧ Hid (∀ g, v.ownBlock = some g → g ∉ fp ∧ w.heap.size ≤ g)) (fun _ i _ => D.pend.length - (intOf i).toNat)
        case atStart => exact ⟨0, Nat.zero_le _, rfl, Lib.hid ⟨rfl, .inl ⟨rfl, rfl⟩⟩, HO, Lib.hid fun g hg => by cases hg⟩
        case round =>
          obtain ⟨k', hk', rfl, HV, HQ, HN⟩ := hrel
          have hpd := HD.out.pend
          have cPe := Lib.hid (pending_own HQ.out)
          by_cases hl2 : k' < D.pend.length
          · go_wp2_with (first | (go_at_call 17; refine cPe.out.mono ?_; rintro e w8 ⟨rfl, rfl⟩) | ((with_reducible refine wpList_of_wp (o := ⟨some 78, _, _, _, _, _⟩) rfl (fun K hK => ?_)); refine wp_append_blk (.tmp 75) (.tmp 77) 37 3 (.int .i64 0) 1 8 rfl Try.underlying37 infoI rfl (by decide) u12 k' _ rfl (by exact ownsRow_keep HV.out (fun g hg => Below.heap_alloc _ _ _ (ownsRow_lt HV.out hg))) wr.heap.size 1 1 #[.int .i64 k'] _ _ rfl (heap_alloc_new _ _) rfl (by simp [Value.oneCell']) (by decide) (by omega) (by omega) (fun g cap2 w9 x1 x2 x3 => hK _ _ ?_); have X1 := Lib.hid x1; have X2 := Lib.hid x2; have X3 := Lib.hid x3; clear x1 x2 x3 hK K))
            go_roundw
            case rel =>
              refine ⟨k' + 1, by omega, by go_num, Lib.hid (by rw [iotaI_succ]; simpa using X1.out), Lib.hid ?_, Lib.hid ?_⟩
              · have hs := HQ.out.same (Fr.alloc [] wr (.cells #[.int .i64 k'] 3))
                exact ⟨hs.at_.keep X2.out (fun q hq hm => (HN.out q (by simpa using hm)).1 hq), hs.fr.step X2.out (fun i hi => .inr (HN.out i (by simpa using hi)).2), hs.new⟩
              · intro g' hg'
                have : g' = g := by simpa [Value.ownBlock] using hg'.symm
                subst this
                rcases X3.out with h | h
                · exact HN.out _ h
                · rw [h]
                  have := HQ.out.fr.size
                  exact ⟨HQ.out.young (by simp), by simp; omega⟩
            case measure => simp [intOf]; omega
          · obtain rfl : k' = D.pend.length := by omega
            have hrow := HV.out
            have hI := intsB_of_row (xs := iotaI D.pend.length) (by rw [iotaI_length]; exact hrow)
            have cC := crashU HQ.out _ (iotaI D.pend.length) (-1) hI (by rw [iotaI_length]; omega) (fun x hx => by have := iotaI_mem hx; omega) (by omega) (by omega)
            rw [crash_all HD.out.coh] at cC
            have CC := Lib.hid cC; clear cC hI hrow
            have hru := read_up (D := ⟨false, 0, D.vis, D.vis, []⟩) ⟨rfl, rfl⟩ rfl
            rw [HD.out.vis, Hen.out] at hru
            have HRU := Lib.hid hru; clear hru
            go_wp2_with (first | (go_at_call 17; refine cPe.out.mono ?_; rintro e w8 ⟨rfl, rfl⟩))
            refine CC.out.mono ?_
            rintro e w8 ⟨rfl, fp8, o8, f8⟩
            have O8 := Lib.hid o8; clear o8 f8
            have cR8 := read_own O8.out 0 (1 + m) (by omega) (by omega) (by omega) (by omega)
            rw [HRU.out.1, HRU.out.2] at cR8
            have CR8 := Lib.hid cR8; clear cR8
            go_wp2_with fail
            refine CR8.out.mono ?_
            rintro e w8b ⟨rfl, rfl⟩
            have cC2 := crashU O8.out (.slice none 0 0) [] 0 (.inl ⟨rfl, none, 0, rfl⟩) (by simp) (by simp) (by omega) (by omega)
            rw [crash_none] at cC2
            have CC2 := Lib.hid cC2; clear cC2
            go_wp2_with fail
            refine CC2.out.mono ?_
            rintro e w9 ⟨rfl, fp9, o9, f9⟩
            have O9 := Lib.hid o9; clear o9 f9
            have cR9 := read_own O9.out 0 (1 + m) (by omega) (by omega) (by omega) (by omega)
            rw [HRU.out.1, HRU.out.2] at cR9
            have CR9 := Lib.hid cR9; clear cR9
            go_wp2_with fail
            refine CR9.out.mono ?_
            rintro e w9b ⟨rfl, rfl⟩
            go_wp2_with fail
            go_ret
            exact ⟨rfl, O9.out.fr.below⟩

set_option maxRecDepth 100000 in
theorem walk_DiskAllSurvive {H : Type} {enc : TypeId × Value → H} {base : Nat} (W : World) {v0 v1 : Value} {d0 d1 : DataW H} {p0 p1 : List MemPlace}
    (k0 : Value.okWide Try.prog W .any base 3 v0) (h0 : DataW.Trod enc Try.prog W 0 (fun _ => true) true 3 v0 d0 p0)
    (k1 : Value.okWide Try.prog W .any base 51 v1) (h1 : DataW.Trod enc Try.prog W 0 (fun _ => true) true 51 v1 d1 p1) :
    Calls Try.prog 9 #[v0, v1] W fun e W' => e = .returned (.bool true) ∧ Below W.heap.size W W' := by
  obtain ⟨a0, rfl, l0, u0⟩ := open_i64 Try.underlying3 k0 h0
  obtain ⟨a, cap, l, rfl, hr⟩ := rowW_of_open k1 h1
  exact allSurvive_c a0 a cap l W l0 u0 hr

end Go.Proofs.Ytanjjgodlgmfcaa
