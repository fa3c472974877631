/-
  The reference's attestations: Formed, where all is formed.
-/
import Derived.Test.YtahfpadaoobkfaaGreatDoorQS23
namespace Go.Proofs.YtahfpadaoobkfaaGreatDoor
open Go.RowKit Go.Lib

theorem inW_ {n lo hi : Int} (h : lo ≤ n) (h2 : n ≤ hi) : isInB n lo hi = true := by unfold isInB; rw [decide_eq_true h, decide_eq_true h2]; rfl
theorem hdRow_all {w : World} {v : Value} {l : List Hd} (h : HdsAt w v l) (h0 : 0 < l.length) : ∃ b off cap, v = .slice (some ⟨b, off, none⟩) l.length cap ∧ ∀ k (hk : k < l.length) j u, (hdC l[k])[j]? = some u → w.cell? ⟨b, off + k * 3 + j, none⟩ = some u := by
  obtain ⟨a, cap, rfl⟩ := h.val
  obtain ⟨b, off, rfl, hc⟩ := h.at_ h0
  refine ⟨b, off, cap, rfl, fun k hk j u hu => ?_⟩
  have hj : j < 3 := by have := (List.getElem?_eq_some_iff.1 hu).1; simpa [hdC] using this
  have := hc (k * 3 + j) u ((flat_get (enc := hdC) (k := 3) (fun _ => rfl) l k hk j hj).trans hu)
  rwa [← Nat.add_assoc] at this

set_option maxRecDepth 100000 in
set_option maxHeartbeats 4000000 in
theorem formed25_c (d : Dl) (v : Value) (l : List Hd) (w : World) (hs : HdsAt w v l) (hf : fmB ⟨d, l⟩ = true) : Calls Tryz.prog 71 #[atV d v] w fun e w' => e = .returned (.bool true) ∧ Fr [] w w' := by
  obtain ⟨b, off, cap, rfl, hcc⟩ := hdRow_all hs (by have := (fmB_parts hf).2.1; simp only at this; omega)
  have hlen := hs.len
  have HC := Lib.hid hcc
  obtain ⟨d0, d1, d2, d3⟩ := d
  simp only [fmB, dlB, Bool.and_eq_true] at hf
  obtain ⟨⟨⟨⟨⟨h0, h1⟩, h2⟩, h3⟩, h4⟩, h5⟩ := hf
  have HF := Lib.hid h5
  clear hs h5 hcc
  go_enter Tryz.func71, Tryz.ntmps71
  go_wp2_with fail
  refine (in25_c _ _ _ _).mono ?_
  rintro e _ ⟨rfl, rfl⟩
  rw [h0]
  go_wp2_with fail
  refine (in25_c _ _ _ _).mono ?_
  rintro e _ ⟨rfl, rfl⟩
  rw [h1]
  go_wp2_with fail
  refine (in25_c _ _ _ _).mono ?_
  rintro e _ ⟨rfl, rfl⟩
  rw [h2]
  go_wp2_with fail
  refine (in25_c _ _ _ _).mono ?_
  rintro e _ ⟨rfl, rfl⟩
  rw [h3]
  go_wp2_with fail
  refine (in25_c _ _ _ _).mono ?_
  rintro e _ ⟨rfl, rfl⟩
  rw [h4]
  go_wp2_with fail
  have F1 := Lib.hid (((Fr.alloc [] w (.cells #[.int .i64 d0, .int .i64 d1, .int .i64 d2, .int .i64 d3, .slice (some ⟨b, off, none⟩) l.length cap] 44))).trans (Fr.alloc [] _ (.cells #[.int .i64 d0, .int .i64 d1, .int .i64 d2, .int .i64 d3] 41)))
  have A2 := alloc2' w (.cells #[.int .i64 d0, .int .i64 d1, .int .i64 d2, .int .i64 d3, .slice (some ⟨b, off, none⟩) l.length cap] 44) (.cells #[.int .i64 d0, .int .i64 d1, .int .i64 d2, .int .i64 d3] 41)
  have c4 := cell_of_blk A2.1 4
  clear A2 h0 h1 h2 h3
  generalize w.heap.size = g at *
  generalize (w.alloc _).alloc _ = W0 at *
  go_loopw [4] (fun iv wr => ∃ (k : Nat), iv = .int .i64 k ∧ k ≤ l.length ∧ Hid (Fr [] W0 wr)) (fun iv _ => l.length - (RowKit.intOf iv).toNat)
  case atStart => exact ⟨0, rfl, Nat.zero_le _, Lib.hid (Fr.refl _ _)⟩
  case round =>
    obtain ⟨k, rfl, hk, HW⟩ := hrel
    have e4 := HW.out.cel c4 (by simp)
    by_cases hlt : k < l.length
    · have hf := F1.out.trans HW.out
      have i0 := hf.cel (HC.out k hlt 0 _ rfl) (by simp)
      have i1 := hf.cel (HC.out k hlt 1 _ rfl) (by simp)
      have i2 := hf.cel (HC.out k hlt 2 _ rfl) (by simp)
      obtain ⟨hx1, hx2, hx3, hx4, hx5⟩ := fmGo_le l (-1) 3 HF.out _ (List.getElem_mem hlt)
      simp only [Nat.add_zero] at i0 i1 i2
      clear hf
      by_cases h0 : k = 0
      · generalize l[k] = x at *
        obtain ⟨xc, xv, xs⟩ := x
        simp only at i0 i1 i2 hx1 hx2 hx3 hx4 hx5
        have q1 : isInB xc 0 7 = true := inW_ hx1 hx2
        have q2 : isInB xv 0 3 = true := inW_ hx3 hx4
        have q3 : ((xs.size : Int) != 32) = false := by simp; omega
        have q4 : decide (0 < k) = false := by simp; omega
        clear h0
        clear hx1 hx2 hx3 hx4 hx5
        go_wp2_with fail
        have BB := heap_alloc_new wr (.cells #[.int .i64 xc, .int .i64 xv, .string xs] 60)
        have FB := Fr.alloc [] wr (.cells #[.int .i64 xc, .int .i64 xv, .string xs] 60)
        have i0 := cell_of_blk BB 0; have i1 := cell_of_blk BB 1; have i2 := cell_of_blk BB 2
        have c4 := FB.cel e4 (by simp)
        clear e4
        generalize wr.heap.size = bb at *
        generalize wr.alloc _ = WB at *
        refine reg_mix (Fr [] WB) [0, 1, 2, 3, 4, 5, 6, 7, 8, 9, 10, 11, 12, 13, 14, 15, 16, 17, 18, 19, 20, 21, 22, 23, 24, 25, 26, 27, 28, 29, 30, 31, 32, 33, 34, 35, 36, 37, 38, 39, 40, 41, 42, 43] (by kernel_rfl) (by kernel_rfl) (by kernel_rfl) rfl (Fr.drew _ _) ?_
        have FC : Fr [] WB WB.drew := Fr.drew _ _
        generalize WB.drew = WC at FC ⊢
        iterate 2 (first | (refine mix_take1 (v := ?_) rfl rfl rfl rfl (fun w hS => ?_) ?_; rotate_left; (focus (have e4 := hS.cel c4 (by simp); have y0 := hS.cel i0 (by simp); have y1 := hS.cel i1 (by simp); have y2 := hS.cel i2 (by simp); clear hS; go_simp; rfl)); simp only [List.setIfInBounds_toArray, List.set_cons_succ, List.set_cons_zero]) | (refine mix_takeg (v := ?_) rfl rfl rfl rfl rfl rfl (fun w hS => ?_) ?_; rotate_left; (focus (have e4 := hS.cel c4 (by simp); have y0 := hS.cel i0 (by simp); have y1 := hS.cel i1 (by simp); have y2 := hS.cel i2 (by simp); clear hS; go_simp; rfl)); simp only [List.setIfInBounds_toArray, List.set_cons_succ, List.set_cons_zero]) | (refine mix_skipT rfl rfl rfl rfl rfl FC ?_; simp only [List.setIfInBounds_toArray, List.set_cons_succ, List.set_cons_zero]) | (refine mix_skipF rfl rfl rfl rfl rfl FC ?_; simp only [List.setIfInBounds_toArray, List.set_cons_succ, List.set_cons_zero]) | (refine mix_skipU rfl rfl rfl rfl rfl FC ?_; simp only [List.setIfInBounds_toArray, List.set_cons_succ, List.set_cons_zero]))
        refine mix_do rfl rfl rfl (fun K hK => ?_)
        go_simp
        refine (in25_c _ _ _ _).mono ?_
        rintro e _ ⟨rfl, rfl⟩
        rw [q1]
        refine hK _ _ FC ?_
        clear hK K
        try simp only [Act.put, List.setIfInBounds_toArray, List.set_cons_succ, List.set_cons_zero]
        iterate 4 (first | (refine mix_take1 (v := ?_) rfl rfl rfl rfl (fun w hS => ?_) ?_; rotate_left; (focus (have e4 := hS.cel c4 (by simp); have y0 := hS.cel i0 (by simp); have y1 := hS.cel i1 (by simp); have y2 := hS.cel i2 (by simp); clear hS; go_simp; rfl)); simp only [List.setIfInBounds_toArray, List.set_cons_succ, List.set_cons_zero]) | (refine mix_takeg (v := ?_) rfl rfl rfl rfl rfl rfl (fun w hS => ?_) ?_; rotate_left; (focus (have e4 := hS.cel c4 (by simp); have y0 := hS.cel i0 (by simp); have y1 := hS.cel i1 (by simp); have y2 := hS.cel i2 (by simp); clear hS; go_simp; rfl)); simp only [List.setIfInBounds_toArray, List.set_cons_succ, List.set_cons_zero]) | (refine mix_skipT rfl rfl rfl rfl rfl FC ?_; simp only [List.setIfInBounds_toArray, List.set_cons_succ, List.set_cons_zero]) | (refine mix_skipF rfl rfl rfl rfl rfl FC ?_; simp only [List.setIfInBounds_toArray, List.set_cons_succ, List.set_cons_zero]) | (refine mix_skipU rfl rfl rfl rfl rfl FC ?_; simp only [List.setIfInBounds_toArray, List.set_cons_succ, List.set_cons_zero]))
        refine mix_dog (o := ⟨some 56, _, _, _, _, _⟩) rfl rfl rfl rfl rfl (fun K hK => ?_)
        go_simp
        refine (in25_c _ _ _ _).mono ?_
        rintro e _ ⟨rfl, rfl⟩
        rw [q2]
        refine hK _ _ FC ?_
        clear hK K
        try simp only [Act.put, List.setIfInBounds_toArray, List.set_cons_succ, List.set_cons_zero]
        iterate 36 (first | (refine mix_take1 (v := ?_) rfl rfl rfl rfl (fun w hS => ?_) ?_; rotate_left; (focus (have e4 := hS.cel c4 (by simp); have y0 := hS.cel i0 (by simp); have y1 := hS.cel i1 (by simp); have y2 := hS.cel i2 (by simp); clear hS; go_simp; rfl)); simp only [List.setIfInBounds_toArray, List.set_cons_succ, List.set_cons_zero]) | (refine mix_takeg (v := ?_) rfl rfl rfl rfl rfl rfl (fun w hS => ?_) ?_; rotate_left; (focus (have e4 := hS.cel c4 (by simp); have y0 := hS.cel i0 (by simp); have y1 := hS.cel i1 (by simp); have y2 := hS.cel i2 (by simp); clear hS; go_simp; rfl)); simp only [List.setIfInBounds_toArray, List.set_cons_succ, List.set_cons_zero]) | (refine mix_skipT rfl rfl rfl rfl rfl FC ?_; simp only [List.setIfInBounds_toArray, List.set_cons_succ, List.set_cons_zero]) | (refine mix_skipF rfl rfl rfl rfl rfl FC ?_; simp only [List.setIfInBounds_toArray, List.set_cons_succ, List.set_cons_zero]) | (refine mix_skipU rfl rfl rfl rfl rfl FC ?_; simp only [List.setIfInBounds_toArray, List.set_cons_succ, List.set_cons_zero]))
        refine mix_end ?_
        have HF2 := Lib.hid (HW.out.trans (FB.trans FC))
        clear FC FB BB i0 i1 i2 c4
        go_wp2_with fail
        go_roundw
        case rel => exact ⟨k + 1, by go_num, by omega, HF2⟩
        case measure => simp [RowKit.intOf]; omega
      · have hp : l[k].car ≠ (l[k - 1]'(by omega)).car ∧ l[k].lev ≤ (l[k - 1]'(by omega)).lev := by
          have h := fmGo_at l (-1) 3 HF.out (k - 1) (by omega)
          have hkk : k - 1 + 1 = k := by omega
          simpa only [hkk] using h
        have hk1 : k - 1 < l.length := by omega
        have hf := F1.out.trans HW.out
        have i3 := hf.cel (HC.out (k - 1) hk1 0 _ rfl) (by simp)
        have i4 := hf.cel (HC.out (k - 1) hk1 1 _ rfl) (by simp)
        have hij : ((k : Int) - 1) = ((k - 1 : Nat) : Int) := by omega
        simp only [Nat.add_zero] at i3 i4
        clear hf
        generalize l[k] = x at *
        generalize l[k - 1] = y at *
        obtain ⟨xc, xv, xs⟩ := x
        obtain ⟨yc, yv, ys⟩ := y
        simp only at i0 i1 i2 i3 i4 hx1 hx2 hx3 hx4 hx5 hp
        have q1 : isInB xc 0 7 = true := inW_ hx1 hx2
        have q2 : isInB xv 0 3 = true := inW_ hx3 hx4
        have q3 : ((xs.size : Int) != 32) = false := by simp; omega
        have q4 : decide (0 < k) = true := by simp; omega
        have q5 : (xc == yc) = false := by simp; omega
        have q6 : decide (yv < xv) = false := by simp; omega
        clear hp
        clear hx1 hx2 hx3 hx4 hx5
        clear h0
        go_wp2_with fail
        have BB := heap_alloc_new wr (.cells #[.int .i64 xc, .int .i64 xv, .string xs] 60)
        have FB := Fr.alloc [] wr (.cells #[.int .i64 xc, .int .i64 xv, .string xs] 60)
        have i0 := cell_of_blk BB 0; have i1 := cell_of_blk BB 1; have i2 := cell_of_blk BB 2
        have c4 := FB.cel e4 (by simp)
        have i3 := FB.cel i3 (by simp); have i4 := FB.cel i4 (by simp)
        clear e4
        generalize wr.heap.size = bb at *
        generalize wr.alloc _ = WB at *
        refine reg_mix (Fr [] WB) [0, 1, 2, 3, 4, 5, 6, 7, 8, 9, 10, 11, 12, 13, 14, 15, 16, 17, 18, 19, 20, 21, 22, 23, 24, 25, 26, 27, 28, 29, 30, 31, 32, 33, 34, 35, 36, 37, 38, 39, 40, 41, 42, 43] (by kernel_rfl) (by kernel_rfl) (by kernel_rfl) rfl (Fr.drew _ _) ?_
        have FC : Fr [] WB WB.drew := Fr.drew _ _
        generalize WB.drew = WC at FC ⊢
        iterate 2 (first | (refine mix_take1 (v := ?_) rfl rfl rfl rfl (fun w hS => ?_) ?_; rotate_left; (focus (have e4 := hS.cel c4 (by simp); have y0 := hS.cel i0 (by simp); have y1 := hS.cel i1 (by simp); have y2 := hS.cel i2 (by simp); have y3 := hS.cel i3 (by simp); have y4 := hS.cel i4 (by simp); clear hS; go_simp; rfl)); simp only [List.setIfInBounds_toArray, List.set_cons_succ, List.set_cons_zero]) | (refine mix_takeg (v := ?_) rfl rfl rfl rfl rfl rfl (fun w hS => ?_) ?_; rotate_left; (focus (have e4 := hS.cel c4 (by simp); have y0 := hS.cel i0 (by simp); have y1 := hS.cel i1 (by simp); have y2 := hS.cel i2 (by simp); have y3 := hS.cel i3 (by simp); have y4 := hS.cel i4 (by simp); clear hS; go_simp; rfl)); simp only [List.setIfInBounds_toArray, List.set_cons_succ, List.set_cons_zero]) | (refine mix_skipT rfl rfl rfl rfl rfl FC ?_; simp only [List.setIfInBounds_toArray, List.set_cons_succ, List.set_cons_zero]) | (refine mix_skipF rfl rfl rfl rfl rfl FC ?_; simp only [List.setIfInBounds_toArray, List.set_cons_succ, List.set_cons_zero]) | (refine mix_skipU rfl rfl rfl rfl rfl FC ?_; simp only [List.setIfInBounds_toArray, List.set_cons_succ, List.set_cons_zero]))
        refine mix_do rfl rfl rfl (fun K hK => ?_)
        go_simp
        refine (in25_c _ _ _ _).mono ?_
        rintro e _ ⟨rfl, rfl⟩
        rw [q1]
        refine hK _ _ FC ?_
        clear hK K
        try simp only [Act.put, List.setIfInBounds_toArray, List.set_cons_succ, List.set_cons_zero]
        iterate 4 (first | (refine mix_take1 (v := ?_) rfl rfl rfl rfl (fun w hS => ?_) ?_; rotate_left; (focus (have e4 := hS.cel c4 (by simp); have y0 := hS.cel i0 (by simp); have y1 := hS.cel i1 (by simp); have y2 := hS.cel i2 (by simp); have y3 := hS.cel i3 (by simp); have y4 := hS.cel i4 (by simp); clear hS; go_simp; rfl)); simp only [List.setIfInBounds_toArray, List.set_cons_succ, List.set_cons_zero]) | (refine mix_takeg (v := ?_) rfl rfl rfl rfl rfl rfl (fun w hS => ?_) ?_; rotate_left; (focus (have e4 := hS.cel c4 (by simp); have y0 := hS.cel i0 (by simp); have y1 := hS.cel i1 (by simp); have y2 := hS.cel i2 (by simp); have y3 := hS.cel i3 (by simp); have y4 := hS.cel i4 (by simp); clear hS; go_simp; rfl)); simp only [List.setIfInBounds_toArray, List.set_cons_succ, List.set_cons_zero]) | (refine mix_skipT rfl rfl rfl rfl rfl FC ?_; simp only [List.setIfInBounds_toArray, List.set_cons_succ, List.set_cons_zero]) | (refine mix_skipF rfl rfl rfl rfl rfl FC ?_; simp only [List.setIfInBounds_toArray, List.set_cons_succ, List.set_cons_zero]) | (refine mix_skipU rfl rfl rfl rfl rfl FC ?_; simp only [List.setIfInBounds_toArray, List.set_cons_succ, List.set_cons_zero]))
        refine mix_dog (o := ⟨some 56, _, _, _, _, _⟩) rfl rfl rfl rfl rfl (fun K hK => ?_)
        go_simp
        refine (in25_c _ _ _ _).mono ?_
        rintro e _ ⟨rfl, rfl⟩
        rw [q2]
        refine hK _ _ FC ?_
        clear hK K
        try simp only [Act.put, List.setIfInBounds_toArray, List.set_cons_succ, List.set_cons_zero]
        iterate 17 (first | (refine mix_take1 (v := ?_) rfl rfl rfl rfl (fun w hS => ?_) ?_; rotate_left; (focus (have e4 := hS.cel c4 (by simp); have y0 := hS.cel i0 (by simp); have y1 := hS.cel i1 (by simp); have y2 := hS.cel i2 (by simp); have y3 := hS.cel i3 (by simp); have y4 := hS.cel i4 (by simp); clear hS; go_simp; rfl)); simp only [List.setIfInBounds_toArray, List.set_cons_succ, List.set_cons_zero]) | (refine mix_takeg (v := ?_) rfl rfl rfl rfl rfl rfl (fun w hS => ?_) ?_; rotate_left; (focus (have e4 := hS.cel c4 (by simp); have y0 := hS.cel i0 (by simp); have y1 := hS.cel i1 (by simp); have y2 := hS.cel i2 (by simp); have y3 := hS.cel i3 (by simp); have y4 := hS.cel i4 (by simp); clear hS; go_simp; rfl)); simp only [List.setIfInBounds_toArray, List.set_cons_succ, List.set_cons_zero]) | (refine mix_skipT rfl rfl rfl rfl rfl FC ?_; simp only [List.setIfInBounds_toArray, List.set_cons_succ, List.set_cons_zero]) | (refine mix_skipF rfl rfl rfl rfl rfl FC ?_; simp only [List.setIfInBounds_toArray, List.set_cons_succ, List.set_cons_zero]) | (refine mix_skipU rfl rfl rfl rfl rfl FC ?_; simp only [List.setIfInBounds_toArray, List.set_cons_succ, List.set_cons_zero]))
        (refine mix_takeg (v := ?_) rfl rfl rfl rfl rfl rfl (fun w hS => ?_) ?_; rotate_left; (focus (have e4 := hS.cel c4 (by simp); have y0 := hS.cel i0 (by simp); have y1 := hS.cel i1 (by simp); have y2 := hS.cel i2 (by simp); have y3 := hS.cel i3 (by simp); have y4 := hS.cel i4 (by simp); clear hS; go_simp; rw [IntWalk.i64_in ((k - 1 : Nat) : Int) (by omega)])); simp only [List.setIfInBounds_toArray, List.set_cons_succ, List.set_cons_zero])
        iterate 10 (first | (refine mix_take1 (v := ?_) rfl rfl rfl rfl (fun w hS => ?_) ?_; rotate_left; (focus (have e4 := hS.cel c4 (by simp); have y0 := hS.cel i0 (by simp); have y1 := hS.cel i1 (by simp); have y2 := hS.cel i2 (by simp); have y3 := hS.cel i3 (by simp); have y4 := hS.cel i4 (by simp); clear hS; go_simp; rfl)); simp only [List.setIfInBounds_toArray, List.set_cons_succ, List.set_cons_zero]) | (refine mix_takeg (v := ?_) rfl rfl rfl rfl rfl rfl (fun w hS => ?_) ?_; rotate_left; (focus (have e4 := hS.cel c4 (by simp); have y0 := hS.cel i0 (by simp); have y1 := hS.cel i1 (by simp); have y2 := hS.cel i2 (by simp); have y3 := hS.cel i3 (by simp); have y4 := hS.cel i4 (by simp); clear hS; go_simp; rfl)); simp only [List.setIfInBounds_toArray, List.set_cons_succ, List.set_cons_zero]) | (refine mix_skipT rfl rfl rfl rfl rfl FC ?_; simp only [List.setIfInBounds_toArray, List.set_cons_succ, List.set_cons_zero]) | (refine mix_skipF rfl rfl rfl rfl rfl FC ?_; simp only [List.setIfInBounds_toArray, List.set_cons_succ, List.set_cons_zero]) | (refine mix_skipU rfl rfl rfl rfl rfl FC ?_; simp only [List.setIfInBounds_toArray, List.set_cons_succ, List.set_cons_zero]))
        (refine mix_takeg (v := ?_) rfl rfl rfl rfl rfl rfl (fun w hS => ?_) ?_; rotate_left; (focus (have e4 := hS.cel c4 (by simp); have y0 := hS.cel i0 (by simp); have y1 := hS.cel i1 (by simp); have y2 := hS.cel i2 (by simp); have y3 := hS.cel i3 (by simp); have y4 := hS.cel i4 (by simp); clear hS; go_simp; rw [IntWalk.i64_in ((k - 1 : Nat) : Int) (by omega)])); simp only [List.setIfInBounds_toArray, List.set_cons_succ, List.set_cons_zero])
        iterate 7 (first | (refine mix_take1 (v := ?_) rfl rfl rfl rfl (fun w hS => ?_) ?_; rotate_left; (focus (have e4 := hS.cel c4 (by simp); have y0 := hS.cel i0 (by simp); have y1 := hS.cel i1 (by simp); have y2 := hS.cel i2 (by simp); have y3 := hS.cel i3 (by simp); have y4 := hS.cel i4 (by simp); clear hS; go_simp; rfl)); simp only [List.setIfInBounds_toArray, List.set_cons_succ, List.set_cons_zero]) | (refine mix_takeg (v := ?_) rfl rfl rfl rfl rfl rfl (fun w hS => ?_) ?_; rotate_left; (focus (have e4 := hS.cel c4 (by simp); have y0 := hS.cel i0 (by simp); have y1 := hS.cel i1 (by simp); have y2 := hS.cel i2 (by simp); have y3 := hS.cel i3 (by simp); have y4 := hS.cel i4 (by simp); clear hS; go_simp; rfl)); simp only [List.setIfInBounds_toArray, List.set_cons_succ, List.set_cons_zero]) | (refine mix_skipT rfl rfl rfl rfl rfl FC ?_; simp only [List.setIfInBounds_toArray, List.set_cons_succ, List.set_cons_zero]) | (refine mix_skipF rfl rfl rfl rfl rfl FC ?_; simp only [List.setIfInBounds_toArray, List.set_cons_succ, List.set_cons_zero]) | (refine mix_skipU rfl rfl rfl rfl rfl FC ?_; simp only [List.setIfInBounds_toArray, List.set_cons_succ, List.set_cons_zero]))
        refine mix_end ?_
        have HF2 := Lib.hid (HW.out.trans (FB.trans FC))
        clear FC FB BB i0 i1 i2 i3 i4 c4
        go_wp2_with fail
        go_roundw
        case rel => exact ⟨k + 1, by go_num, by omega, HF2⟩
        case measure => simp [RowKit.intOf]; omega
    · obtain rfl : k = l.length := by omega
      go_wp2_with fail
      go_ret
      exact ⟨rfl, F1.out.trans HW.out⟩

end Go.Proofs.YtahfpadaoobkfaaGreatDoor
