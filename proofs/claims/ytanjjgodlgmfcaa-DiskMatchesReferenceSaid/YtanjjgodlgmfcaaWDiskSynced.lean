/-
  The walk of DiskSynced.
-/
import Derived.Test.YtanjjgodlgmfcaaWDiskReadsBack
namespace Go.Proofs.Ytanjjgodlgmfcaa
open Go.RowKit Go.Lib

theorem survL_nil (m : Nat) : survL m [] = [] := by
  have h : sortI [] = [] := by simp [sortI]
  unfold survL
  rw [h]
  rfl
theorem crash_none (D : Dk) (torn : Int) : D.crash [] torn = ⟨false, 0, D.dur, D.dur, []⟩ := by
  unfold Dk.crash
  rw [survL_nil]
  rfl

set_option maxRecDepth 1000000 in
set_option maxHeartbeats 4000000 in
theorem synced_c (size : Int) (a : Option Addr) (cap : Nat) (l : List Wp) (torn : Int) (w : World) (ht1 : -9223372036854775808 ≤ torn) (ht2 : torn ≤ 9223372036854775807) (h1 : -9223372036854775808 ≤ size) (h2 : size ≤ 9223372036854775807) (hr : RowW w a cap l) :
    Calls Try.prog 7 #[.int .i64 size, .slice a l.length cap, .int .i64 torn] w fun e w' => e = .returned (.bool true) ∧ Below w.heap.size w w' := by
  have hlm : l.length ≤ 9223372036854775807 := Nat.le_trans hr.le hr.max
  have cS := Lib.hid (sane_c w)
  have hp := pickI_bound size 300 (by omega)
  have cP := Lib.hid (fun w => pick_any size 300 w h1 h2 (by omega) (by omega))
  generalize pickI size 300 = sz at *
  obtain ⟨m, rfl⟩ := Int.eq_ofNat_of_zero_le hp.1
  have hn1 : m + 1 ≤ 300 := by omega
  have cN := Lib.hid (fun w => new_own (m + 1) w (by omega) (by omega))
  have en : ((m + 1 : Nat) : Int) = 1 + (m : Int) := by omega
  have hmk := fun w => run_make_row' (P := Try.prog) 40 5 (.int .u8 0) 1 Try.underlying40 infoB rfl .i64 .i64 (m + 1) (by omega) (by omega) w
  rw [en] at cN
  simp only [en] at hmk
  have HR := Lib.hid hr; clear hr
  have Hen := Lib.hid en; clear en
  go_enter Try.func7, Try.ntmps7
  go_wp2_with (first | (go_at_call 12; refine cS.out.mono ?_; rintro e w1 ⟨rfl, f1⟩) | (go_at_call 15; refine (cP.out _).mono ?_; rintro e w2 ⟨rfl, rfl⟩) | (go_at_call 13; refine (cN.out _).mono ?_; rintro e w2 ⟨b, fp, rfl, o1⟩; have O1 := Lib.hid o1; clear o1) | ((with_reducible refine wpList_of_wp (o := ⟨some 31, _, _, _, _, _⟩) rfl (fun K hK => ?_)); refine wp_bytes_all (.tmp 30) 40 9 5 rfl Try.underlying40 Try.underlying5 Try.underlying9 w2.heap.size (m + 1) (m + 1) (List.replicate (m + 1) 0) 5 rfl (bytes_new _ _) (by simp) (hK _ _ ?_)))
  have O2 : OwnB w (w2.alloc (.cells (madeCells #[Value.int .u8 0] (m + 1)) 5)) b fp (Dk.new (m + 1)) w2.heap.size (Dk.new (m + 1)).vis :=
    ⟨(O1.out.older f1).same (Fr.alloc _ _ _), bytes_new _ _, fun hm => by have := O1.out.at_.lt _ hm; omega, by have := f1.size; have := O1.out.fr.size; omega⟩
  have HO2 := Lib.hid O2; clear O2 O1 f1
  go_loopw [11, 12] (fun z i wr => ∃ (k : Nat) (fp : List Nat) (D : Dk), k ≤ l.length ∧ k ≤ 60 ∧ i = .int .i64 k ∧ z = .string ⟨D.dur.toArray⟩ ∧ Hid (OwnB w wr b fp D w2.heap.size D.vis) ∧ Hid (D.up ∧ D.dur.length = m + 1 ∧ D.vis.length = m + 1 ∧ D.pend.length ≤ k)) (fun _ i _ => l.length - (intOf i).toNat)
  case atStart => exact ⟨0, fp, Dk.new (m + 1), Nat.zero_le _, by omega, rfl, by simp [Dk.new], HO2, Lib.hid ⟨up_new _, by simp [Dk.new], by simp [Dk.new], by simp [Dk.new]⟩⟩
  case round =>
    obtain ⟨k, fp, D, hk, hk60, rfl, rfl, HO, HD⟩ := hrel
    by_cases hlt : k < l.length
    · by_cases h60 : k < 60
      · obtain ⟨b', off', ha, hb', hcs⟩ := HR.out.cells (by omega)
        subst ha
        have hbel := HO.out.rows
        obtain ⟨q0, q1, q2⟩ := hcs k hlt
        have e0 := (hbel.cell (p := ⟨b', off' + k * 3, none⟩) hb').trans q0
        have e1 := (hbel.cell (p := ⟨b', off' + k * 3 + 1, none⟩) hb').trans q1
        have e2 := (hbel.cell (p := ⟨b', off' + k * 3 + 2, none⟩) hb').trans q2
        have hok := HR.out.ok _ (List.getElem_mem hlt)
        clear hcs q0 q1 q2 hbel
        generalize l[k] = x at *
        have cF := Lib.hid (fun w => fits_c x (m + 1) w hok (by omega))
        rw [Hen.out] at cF
        have hft := fitW_fits x (m + 1)
        generalize (fitW x (m + 1)).1 = o at *
        generalize (fitW x (m + 1)).2 = s at *
        go_wp2_with (first | (go_at_call 26; refine (cF.out _).mono ?_; rintro e w4 ⟨rfl, f4⟩; have O4 := Lib.hid (HO.out.same f4); clear f4))
        generalize x.sync = y at *
        have O4b := Lib.hid (O4.out.same (Fr.alloc _ _ (.cells #[.int .i64 o, .string s, .bool y] 53)))
        have hyo := O4.out.young (Nat.le_refl _)
        have hnv := Lib.hid (heap_alloc_new w4 (.cells #[.int .i64 o, .string s, .bool y] 53))
        refine (put_c w2.heap.size (m + 1) o s D.vis _ O4b.out.buf HD.out.2.2.1 hft (by omega)).mono ?_
        rintro e w5 ⟨rfl, f5, b5⟩
        have O5 := Lib.hid (O4b.out.put f5 b5)
        have V5 := Lib.hid (f5.keep hnv.out (by simp only [List.mem_singleton]; exact hyo.2))
        have t0 : w5.cell? ⟨w4.heap.size, 0, none⟩ = some (.int .i64 o) := cell_of_blk V5.out 0
        have t1 : w5.cell? ⟨w4.heap.size, 1, none⟩ = some (.string s) := cell_of_blk V5.out 1
        have hss : s.size ≤ 300 := by omega
        have cW := writeB O5.out o s (by omega) (by omega) (by omega) (by have := HD.out.2.2.2; omega)
        have hwu := write_up HD.out.1 (show o + s.size ≤ D.dur.length by rw [HD.out.2.1]; exact hft)
        rw [hwu.1, hwu.2] at cW
        have CW := Lib.hid cW
        clear cW hwu f5 b5 O4b hnv
        go_wp2_with fail
        refine CW.out.mono ?_
        rintro e w6 ⟨rfl, fp6, o6, f6⟩
        have O6 := Lib.hid o6
        have V6 := Lib.hid (f6.fr.keep V5.out hyo.1)
        have t2 : w6.cell? ⟨w4.heap.size, 2, none⟩ = some (.bool y) := cell_of_blk V6.out 2
        have hny : w4.heap.size ∉ fp6 := fun hm => by
          rcases f6.sub _ hm with h | h
          · exact hyo.1 h
          · have := blk_lt V5.out; omega
        have U6 := Lib.hid (put_up HD.out.1 o s)
        have L6 : Hid ((D.put o s).dur.length = m + 1 ∧ (D.put o s).vis.length = m + 1 ∧ (D.put o s).pend.length ≤ k + 1) := Lib.hid ⟨HD.out.2.1, by
          simp only [Dk.put]; rw [paste_length _ _ _ (by rw [HD.out.2.2.1]; simpa using hft)]; exact HD.out.2.2.1, by simp [Dk.put]; exact HD.out.2.2.2⟩
        clear o6 f6 CW t0 t1
        have ev : paste D.vis o s.data.toList = (D.put o s).vis := rfl
        have ed : (D.put o s).dur = D.dur := rfl
        have Ed := Lib.hid ed
        rw [ev] at O6
        generalize D.put o s = D6 at *
        clear ev ed
        cases y with
        | false =>
          go_wp2_with fail
          go_roundw
          case rel => exact ⟨k + 1, fp6, D6, by omega, by omega, by go_num, by rw [Ed.out], O6, Lib.hid ⟨U6.out, L6.out⟩⟩
          case measure => simp [intOf]; omega
        | true =>
          have cY := syncB O6.out
          have hsu := sync_up U6.out
          rw [hsu.1, hsu.2.1] at cY
          have CY := Lib.hid cY; have US := Lib.hid hsu.2.2; clear cY hsu
          have LS : Hid (D6.sync.dur.length = m + 1 ∧ D6.sync.vis.length = m + 1 ∧ D6.sync.pend.length ≤ k + 1) := Lib.hid ⟨L6.out.2.1, L6.out.2.1, by simp [Dk.sync]⟩
          go_wp2_with (first | (go_at_call 23; refine CY.out.mono ?_; rintro e w7 ⟨rfl, fp7, o7, f7⟩; have O7 := Lib.hid o7; have t3 : w7.cell? ⟨w4.heap.size, 2, none⟩ = some (.bool true) := cell_of_blk (f7.fr.keep V6.out hny) 2; clear o7 f7) | ((with_reducible refine wpList_of_wp (o := ⟨some 73, _, _, _, _, _⟩) rfl (fun K hK => ?_)); refine wp_bytes_all (.tmp 72) 40 9 5 rfl Try.underlying40 Try.underlying5 Try.underlying9 w2.heap.size (m + 1) (m + 1) D6.vis 5 rfl O7.out.buf L6.out.2.1 (hK _ _ ?_)))
          go_roundw
          case rel => exact ⟨k + 1, fp7, D6.sync, by omega, by omega, by go_num, rfl, O7, Lib.hid ⟨US.out, LS.out⟩⟩
          case measure => simp [intOf]; omega
      · obtain rfl : k = 60 := by omega
        have h60d : decide (((60 : Nat) : Int) < 60) = false := by simp
        have cC := crashB HO.out (.slice none 0 0) [] torn (.inl ⟨rfl, none, 0, rfl⟩) (by simp) (by simp) ht1 ht2
        rw [crash_none] at cC
        have CC := Lib.hid cC; clear cC
        have hru := read_up (D := ⟨false, 0, D.dur, D.dur, []⟩) ⟨rfl, rfl⟩ rfl
        rw [HD.out.2.1, Hen.out] at hru
        have HRU := Lib.hid hru; clear hru
        go_wp2_with (first | (go_at_call 25; refine CC.out.mono ?_; rintro e w7 ⟨rfl, fp7, o7, f7⟩; have O7 := Lib.hid o7; clear o7 f7) | (go_at_call 14; refine (read_own O7.out.own 0 (1 + m) (by omega) (by omega) (by omega) (by omega)).mono ?_; rw [HRU.out.1, HRU.out.2]; rintro e w8 ⟨rfl, rfl⟩) | (go_at_call 17; refine (pending_own O7.out.own).mono ?_; rintro e w8 ⟨rfl, rfl⟩))
        go_ret
        exact ⟨rfl, O7.out.rows⟩
    · have hd : decide ((k : Int) < (l.length : Int)) = false := by simp; omega
      have cC := crashB HO.out (.slice none 0 0) [] torn (.inl ⟨rfl, none, 0, rfl⟩) (by simp) (by simp) ht1 ht2
      rw [crash_none] at cC
      have CC := Lib.hid cC; clear cC
      have hru := read_up (D := ⟨false, 0, D.dur, D.dur, []⟩) ⟨rfl, rfl⟩ rfl
      rw [HD.out.2.1, Hen.out] at hru
      have HRU := Lib.hid hru; clear hru
      go_wp2_with (first | (go_at_call 25; refine CC.out.mono ?_; rintro e w7 ⟨rfl, fp7, o7, f7⟩; have O7 := Lib.hid o7; clear o7 f7) | (go_at_call 14; refine (read_own O7.out.own 0 (1 + m) (by omega) (by omega) (by omega) (by omega)).mono ?_; rw [HRU.out.1, HRU.out.2]; rintro e w8 ⟨rfl, rfl⟩) | (go_at_call 17; refine (pending_own O7.out.own).mono ?_; rintro e w8 ⟨rfl, rfl⟩))
      go_ret
      exact ⟨rfl, O7.out.rows⟩

set_option maxRecDepth 100000 in
theorem walk_DiskSynced {H : Type} {enc : TypeId × Value → H} {base : Nat} (W : World) {v0 v1 v2 : Value} {d0 d1 d2 : DataW H} {p0 p1 p2 : List MemPlace}
    (k0 : Value.okWide Try.prog W .any base 3 v0) (h0 : DataW.Trod enc Try.prog W 0 (fun _ => true) true 3 v0 d0 p0)
    (k1 : Value.okWide Try.prog W .any base 51 v1) (h1 : DataW.Trod enc Try.prog W 0 (fun _ => true) true 51 v1 d1 p1)
    (k2 : Value.okWide Try.prog W .any base 3 v2) (h2 : DataW.Trod enc Try.prog W 0 (fun _ => true) true 3 v2 d2 p2) :
    Calls Try.prog 7 #[v0, v1, v2] W fun e W' => e = .returned (.bool true) ∧ Below W.heap.size W W' := by
  obtain ⟨a0, rfl, l0, u0⟩ := open_i64 Try.underlying3 k0 h0
  obtain ⟨a, cap, l, rfl, hr⟩ := rowW_of_open k1 h1
  obtain ⟨a2, rfl, l2, u2⟩ := open_i64 Try.underlying3 k2 h2
  exact synced_c a0 a cap l a2 W l2 u2 l0 u0 hr

end Go.Proofs.Ytanjjgodlgmfcaa
