/-
  dialtoneref26: pick, Ints.
-/
import Derived.Test.YtkopnooajikpmaaGreatQL8c
import Derived.Test.YtkopnooajikpmaaGreatQFlW16
namespace Go.Proofs.YtkopnooajikpmaaGreat
open Go.RowKit Go.Lib

set_option maxHeartbeats 400000 in
theorem pick26_c (c n : Int) (w : World) (hc : I64 c) (hn : 1 ≤ n) (hn2 : n ≤ 9223372036854775807) :
    Calls Tryz.prog 77 #[.int .i64 c, .int .i64 n] w fun e w' => e = .returned (.int .i64 (pickI c n)) ∧ w = w' := by
  obtain ⟨hc, hc2⟩ := hc
  by_cases h : c < 0
  · have h1 : 0 ≤ -(c + 1) := by omega
    have e : pickI c n = (-(c + 1)).tmod n := by
      unfold pickI; rw [if_pos h, Int.tmod_eq_emod_of_nonneg h1]
    rw [e]
    go_enter Tryz.func77, Tryz.ntmps77
    go_wp2
    go_ret
    exact ⟨by simp, rfl⟩
  · have e : pickI c n = c % n := by unfold pickI; rw [if_neg h]
    rw [e]
    go_enter Tryz.func77, Tryz.ntmps77
    go_wp2
    go_ret
    exact ⟨rfl, rfl⟩
set_option maxHeartbeats 400000 in
theorem lawpick26_c (c n : Int) (w : World) (hc : I64 c) (hn : 1 ≤ n) (hn2 : n ≤ 9223372036854775807) :
    Calls Tryz.prog 37 #[.int .i64 c, .int .i64 n] w fun e w' => e = .returned (.int .i64 (pickI c n)) ∧ w = w' := by
  obtain ⟨hc, hc2⟩ := hc
  by_cases h : c < 0
  · have h1 : 0 ≤ -(c + 1) := by omega
    have e : pickI c n = (-(c + 1)).tmod n := by
      unfold pickI; rw [if_pos h, Int.tmod_eq_emod_of_nonneg h1]
    rw [e]
    go_enter Tryz.func37, Tryz.ntmps37
    go_wp2
    go_ret
    exact ⟨by simp, rfl⟩
  · have e : pickI c n = c % n := by unfold pickI; rw [if_neg h]
    rw [e]
    go_enter Tryz.func37, Tryz.ntmps37
    go_wp2
    go_ret
    exact ⟨rfl, rfl⟩
set_option maxRecDepth 100000 in
set_option maxHeartbeats 2000000 in
theorem ints26_c (va vb : Value) (la lb : List Int) (w : World) (ha : IntsAt w va la) (hb : IntsAt w vb lb) : Calls Tryz.prog 75 #[va, vb] w fun e w' => e = .returned (.bool (decide (la = lb))) ∧ Fr [] w w' := by
  obtain ⟨aa, pa, rfl⟩ := ha.val
  obtain ⟨ab, pb, rfl⟩ := hb.val
  have hal := ha.len
  have hbl := hb.len
  have HA := Lib.hid ha; have HB := Lib.hid hb; clear ha hb
  by_cases hll : la.length = lb.length
  · go_enter Tryz.func75, Tryz.ntmps75
    go_wp2_with fail
    go_loopw [5] (fun i wr => ∃ k : Nat, k ≤ la.length ∧ i = .int .i64 k ∧ Hid (la.take k = lb.take k ∧ Fr [] w wr)) (fun i _ => la.length - (intOf i).toNat)
    case atStart => exact ⟨0, Nat.zero_le _, rfl, Lib.hid ⟨rfl, Fr.refl _ _⟩⟩
    case round =>
      obtain ⟨k, hk, rfl, H⟩ := hrel
      by_cases hlt : k < la.length
      · obtain ⟨ba, oa, rfl, hca⟩ := HA.out.at_ (by omega)
        obtain ⟨bb, ob, rfl, hcb⟩ := HB.out.at_ (by omega)
        have hlb : k < lb.length := by omega
        have e1 : wr.cell? ⟨ba, oa + k, none⟩ = some (.int .i64 la[k]) := (World.cell?_of_block (H.out.2.block ba (World.block_lt_of_cell? w _ (hca k (.int .i64 la[k]) (by simp [hlt]))) (by simp))).trans (hca k _ (by simp [hlt]))
        have e2 : wr.cell? ⟨bb, ob + k, none⟩ = some (.int .i64 lb[k]) := (World.cell?_of_block (H.out.2.block bb (World.block_lt_of_cell? w _ (hcb k (.int .i64 lb[k]) (by simp [hlb]))) (by simp))).trans (hcb k _ (by simp [hlb]))
        have HT : Hid (la.take (k + 1) = la.take k ++ [la[k]] ∧ lb.take (k + 1) = lb.take k ++ [lb[k]]) := Lib.hid ⟨List.take_succ_eq_append_getElem hlt, List.take_succ_eq_append_getElem hlb⟩
        by_cases he : la[k] = lb[k]
        · have HE : Hid (la[k] = lb[k]) := Lib.hid he
          rw [← he] at e2
          generalize la[k] = x at *
          clear he hca hcb
          go_wp2_with (first | go_quiet (fail) | fail)
          refine ⟨⟨k + 1, by omega, by go_num, Lib.hid ⟨by rw [HT.out.1, HT.out.2, H.out.1, HE.out], H.out.2.trans (Fr.drewN _ _ _)⟩⟩, ?_⟩
          simp [intOf]; omega
        · have hne : la ≠ lb := fun h => he (by subst h; rfl)
          have hd : decide (la = lb) = false := by simp [hne]
          have he1 : (la[k] == lb[k]) = false := by simp [he]
          have he2 : (la[k] != lb[k]) = true := by simp [he]
          have HD := Lib.hid hd
          generalize la[k] = x at *
          generalize lb[k] = y at *
          clear he hca hcb hne hd
          go_wp2_with (first | go_quiet (fail) | fail)
          go_ret
          exact ⟨by rw [HD.out]; rfl, H.out.2.trans (Fr.drewN _ _ _)⟩
      · obtain rfl : k = la.length := by omega
        go_wp2_with fail
        go_ret
        have h1 := H.out.1
        rw [List.take_length, hll, List.take_length] at h1
        exact ⟨by simp [h1], H.out.2⟩
  · have hne : la ≠ lb := fun h => hll (by rw [h])
    have hd : decide (la = lb) = false := by simp [hne]
    have HD := Lib.hid hd
    have h2 : ¬ (la.length : Int) = lb.length := by omega
    have h3 : ((la.length : Int) == lb.length) = false := by simpa using h2
    have h4 : ((la.length : Int) != lb.length) = true := by simpa using h2
    clear hne hd
    go_enter Tryz.func75, Tryz.ntmps75
    go_wp2_with fail
    go_ret
    exact ⟨by rw [HD.out]; rfl, Fr.refl _ _⟩


end Go.Proofs.YtkopnooajikpmaaGreat
