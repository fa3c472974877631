/-
  filter: Check, further ways out ahead of its loop.
-/
import Derived.Test.YtkopnooajikpmaaGreatQFlW13
namespace Go.Proofs.YtkopnooajikpmaaGreat
open Go.RowKit Go.Lib

set_option maxRecDepth 100000 in
set_option maxHeartbeats 4000000 in
theorem fCheck_none (v : Value) (ys : List RuV) (f : Fl) (vc vp vf : Value) (zsR : List ClV) (b : Rb) (ca cd at_ lv fw : Int) (bk : Bool) (xa xr : Int) (aF aP : Option Addr) (nF pF nP pP : Nat) (w : World) (h : FlAt w v ys f) (hb : RbAt w vc vp vf zsR b) (hc : CaOk ⟨ca, cd, at_, lv, fw, bk⟩) (hg : goodF f b ⟨ca, cd, at_, lv, fw, bk⟩ = true) (hbk : bk = false) (hr1 : xr ≠ -1) (hr2 : isInB xr 0 (ys.length - 1) = false) :
    Calls Tryz.prog 32 #[flV v f.dfl, rbV vc vp vf, caV ⟨ca, cd, at_, lv, fw, bk⟩, dnV xa xr (.slice aF nF pF) (.slice aP nP pP)] w (Chk false w) := by
  subst hbk
  obtain ⟨a, cap, rfl⟩ := h.sl.val
  have hl := h.sl.len
  obtain ⟨ac, pc, rfl⟩ := hb.cls.sl.val
  obtain ⟨ar, pr, rfl⟩ := hb.rps.val
  obtain ⟨af, pf, rfl⟩ := hb.fas.val
  have HA := Lib.hid (alloc5f w (.cells #[.slice a ys.length cap, .int .i64 f.dfl] 65) (.cells #[.slice ac zsR.length pc, .slice ar b.rps.length pr, .slice af b.fas.length pf] 30) (.cells #[.int .i64 ca, .int .i64 cd, .int .i64 at_, .int .i64 lv, .int .i64 fw, .bool false] 68) (.cells #[.int .i64 xa, .int .i64 xr, .slice aF nF pF, .slice aP nP pP] 62) (.cells #[.bool false] 4))
  have CO := Lib.hid (fOpen_c _ ys f _ _ _ zsR b ⟨ca, cd, at_, lv, fw, false⟩ _ (h.same HA.out.2.2.2.2.2) (hb.same HA.out.2.2.2.2.2) hc)
  have HFE := Lib.hid h.eq
  have HG := Lib.hid hg
  have HR := Lib.hid hr2
  have hre : (xr != -1) = true := by simpa using hr1
  clear h hb hc hg hr1 hr2
  unfold flV caV rbV dnV at *
  simp only at CO HA
  go_enter Tryz.func32, Tryz.ntmps32
  go_wp2_with fail
  refine CO.out.mono ?_
  rintro e w1 ⟨f1, hr⟩
  have F1 := Lib.hid (HA.out.2.2.2.2.2.trans f1)
  have B0 := Lib.hid (f1.keep HA.out.1 (by simp))
  have B1 := Lib.hid (f1.keep HA.out.2.1 (by simp))
  have B2 := Lib.hid (f1.keep HA.out.2.2.1 (by simp))
  have B3 := Lib.hid (f1.keep HA.out.2.2.2.1 (by simp))
  have B4 := Lib.hid (f1.keep HA.out.2.2.2.2.1 (by simp))
  clear f1 CO
  rcases hr with ⟨h0, _⟩ | ⟨_, bd, rfl, hbd, hd⟩
  · simp only at h0; rw [HG.out] at h0; cases h0
  clear hbd
  go_upto_region 2 with fail
  have FD := Fr.alloc [] w1 (.cells #[.pointer (some ⟨bd, 0, none⟩)] 137)
  have D0 := Lib.hid (FD.keep B0.out (by simp)); have D2 := Lib.hid (FD.keep B2.out (by simp)); have D3 := Lib.hid (FD.keep B3.out (by simp)); have D4 := Lib.hid (FD.keep B4.out (by simp))
  have F2 := Lib.hid (F1.out.trans FD)
  have HFD := Lib.hid FD
  clear FD
  generalize w1.alloc (.cells #[.pointer (some ⟨bd, 0, none⟩)] 137) = W2 at *
  have r0 := cell_of_blk D4.out 0
  have y0 := free_of_blk D4.out 0
  have HD := Lib.hid (hd.same HFD.out)
  clear hd r0 y0
  have c5 := cell_of_blk D2.out 5
  have g0 := cell_of_blk D0.out 0; have g1 := cell_of_blk D0.out 1
  go_wp2_with fail
  refine reg_mix (Fr [] W2) [0, 1, 2, 5, 3, 4, 6] (by kernel_rfl) (by kernel_rfl) (by kernel_rfl) rfl (Fr.drew _ _) ?_
  have FC : Fr [] W2 W2.drew := Fr.drew _ _
  generalize W2.drew = WC at FC ⊢
  iterate 7 (refine mix_take1 (v := ?_) rfl rfl rfl rfl (fun w hS => ?_) ?_; rotate_left; (focus (have s0 := hS.cel g0 (by simp); have s1 := hS.cel g1 (by simp); clear hS; go_simp; rfl)); simp only [List.setIfInBounds_toArray, List.set_cons_succ, List.set_cons_zero])
  refine mix_end ?_
  have D0 := Lib.hid (FC.keep D0.out (by simp)); have D2 := Lib.hid (FC.keep D2.out (by simp)); have D3 := Lib.hid (FC.keep D3.out (by simp)); have D4 := Lib.hid (FC.keep D4.out (by simp))
  have F2 := Lib.hid (F2.out.trans FC)
  have HD := Lib.hid (HD.out.same FC)
  clear FC g0 g1 c5
  have g0 := cell_of_blk D0.out 0; have g1 := cell_of_blk D0.out 1
  have x0 := cell_of_blk D3.out 0; have x1 := cell_of_blk D3.out 1; have x2 := cell_of_blk D3.out 2; have x3 := cell_of_blk D3.out 3
  have r0 := cell_of_blk D4.out 0
  have y0 := free_of_blk D4.out 0
  go_wp2_with fail
  refine (fIsIn_c _ _ _ _).mono ?_
  rintro e w00 ⟨rfl, rfl⟩
  rw [HR.out]
  go_wp2_with fail
  clear g0 g1 x0 x1 x2 x3 r0 y0
  have FS : Fr [w.heap.size + 1 + 1 + 1 + 1] WC (WC.setCell ⟨w.heap.size + 1 + 1 + 1 + 1, 0, none⟩ (.bool false)) := Fr.setCell _ _ (by simp)
  have KS := heap_setCell_same (i := 0) (.bool false) D4.out
  generalize WC.setCell ⟨w.heap.size + 1 + 1 + 1 + 1, 0, none⟩ (.bool false) = W3 at *
  have k0 : W3.cell? ⟨w.heap.size + 1 + 1 + 1 + 1, 0, none⟩ = some (.bool false) := cell_of_blk KS 0
  refine bodyPost_ret (by simp [results, Tryz.results32, go_sem, k0]; try rfl) rfl ?_
  exact ⟨rfl, F2.out.step FS (fun i hi => by simp at hi; exact .inr (by omega))⟩

set_option maxRecDepth 100000 in
set_option maxHeartbeats 4000000 in
theorem fCheck_off0 (v : Value) (ys : List RuV) (f : Fl) (vc vp vf : Value) (zsR : List ClV) (b : Rb) (ca cd at_ lv fw : Int) (bk : Bool) (xa xr : Int) (aF aP : Option Addr) (nF pF nP pP : Nat) (w : World) (h : FlAt w v ys f) (hb : RbAt w vc vp vf zsR b) (hc : CaOk ⟨ca, cd, at_, lv, fw, bk⟩) (hg : goodF f b ⟨ca, cd, at_, lv, fw, bk⟩ = true) (hbk : bk = false) (hr1 : xr = -1) (hbad : nF = ys.length → xa ≠ f.dfl) :
    Calls Tryz.prog 32 #[flV v f.dfl, rbV vc vp vf, caV ⟨ca, cd, at_, lv, fw, bk⟩, dnV xa xr (.slice aF nF pF) (.slice aP nP pP)] w (Chk false w) := by
  subst hbk
  subst hr1
  obtain ⟨a, cap, rfl⟩ := h.sl.val
  have hl := h.sl.len
  obtain ⟨ac, pc, rfl⟩ := hb.cls.sl.val
  obtain ⟨ar, pr, rfl⟩ := hb.rps.val
  obtain ⟨af, pf, rfl⟩ := hb.fas.val
  have HA := Lib.hid (alloc5f w (.cells #[.slice a ys.length cap, .int .i64 f.dfl] 65) (.cells #[.slice ac zsR.length pc, .slice ar b.rps.length pr, .slice af b.fas.length pf] 30) (.cells #[.int .i64 ca, .int .i64 cd, .int .i64 at_, .int .i64 lv, .int .i64 fw, .bool false] 68) (.cells #[.int .i64 xa, .int .i64 (-1), .slice aF nF pF, .slice aP nP pP] 62) (.cells #[.bool false] 4))
  have CO := Lib.hid (fOpen_c _ ys f _ _ _ zsR b ⟨ca, cd, at_, lv, fw, false⟩ _ (h.same HA.out.2.2.2.2.2) (hb.same HA.out.2.2.2.2.2) hc)
  have HFE := Lib.hid h.eq
  have HG := Lib.hid hg
  have HB := Lib.hid hbad
  clear h hb hc hg hbad
  unfold flV caV rbV dnV at *
  simp only at CO HA
  go_enter Tryz.func32, Tryz.ntmps32
  go_wp2_with fail
  refine CO.out.mono ?_
  rintro e w1 ⟨f1, hr⟩
  have F1 := Lib.hid (HA.out.2.2.2.2.2.trans f1)
  have B0 := Lib.hid (f1.keep HA.out.1 (by simp))
  have B1 := Lib.hid (f1.keep HA.out.2.1 (by simp))
  have B2 := Lib.hid (f1.keep HA.out.2.2.1 (by simp))
  have B3 := Lib.hid (f1.keep HA.out.2.2.2.1 (by simp))
  have B4 := Lib.hid (f1.keep HA.out.2.2.2.2.1 (by simp))
  clear f1 CO
  rcases hr with ⟨h0, _⟩ | ⟨_, bd, rfl, hbd, hd⟩
  · simp only at h0; rw [HG.out] at h0; cases h0
  clear hbd
  go_upto_region 2 with fail
  have FD := Fr.alloc [] w1 (.cells #[.pointer (some ⟨bd, 0, none⟩)] 137)
  have D0 := Lib.hid (FD.keep B0.out (by simp)); have D2 := Lib.hid (FD.keep B2.out (by simp)); have D3 := Lib.hid (FD.keep B3.out (by simp)); have D4 := Lib.hid (FD.keep B4.out (by simp))
  have F2 := Lib.hid (F1.out.trans FD)
  have HFD := Lib.hid FD
  clear FD
  generalize w1.alloc (.cells #[.pointer (some ⟨bd, 0, none⟩)] 137) = W2 at *
  have r0 := cell_of_blk D4.out 0
  have y0 := free_of_blk D4.out 0
  have HD := Lib.hid (hd.same HFD.out)
  clear hd r0 y0
  have c5 := cell_of_blk D2.out 5
  have g0 := cell_of_blk D0.out 0; have g1 := cell_of_blk D0.out 1
  go_wp2_with fail
  refine reg_mix (Fr [] W2) [0, 1, 2, 5, 3, 4, 6] (by kernel_rfl) (by kernel_rfl) (by kernel_rfl) rfl (Fr.drew _ _) ?_
  have FC : Fr [] W2 W2.drew := Fr.drew _ _
  generalize W2.drew = WC at FC ⊢
  iterate 7 (refine mix_take1 (v := ?_) rfl rfl rfl rfl (fun w hS => ?_) ?_; rotate_left; (focus (have s0 := hS.cel g0 (by simp); have s1 := hS.cel g1 (by simp); clear hS; go_simp; rfl)); simp only [List.setIfInBounds_toArray, List.set_cons_succ, List.set_cons_zero])
  refine mix_end ?_
  have D0 := Lib.hid (FC.keep D0.out (by simp)); have D2 := Lib.hid (FC.keep D2.out (by simp)); have D3 := Lib.hid (FC.keep D3.out (by simp)); have D4 := Lib.hid (FC.keep D4.out (by simp))
  have F2 := Lib.hid (F2.out.trans FC)
  have HD := Lib.hid (HD.out.same FC)
  clear FC g0 g1 c5
  have g0 := cell_of_blk D0.out 0; have g1 := cell_of_blk D0.out 1
  have x0 := cell_of_blk D3.out 0; have x1 := cell_of_blk D3.out 1; have x2 := cell_of_blk D3.out 2; have x3 := cell_of_blk D3.out 3
  have r0 := cell_of_blk D4.out 0
  have y0 := free_of_blk D4.out 0
  clear x1
  have x1 := cell_of_blk D3.out 1
  by_cases h1 : nF = ys.length
  · have h2 := HB.out h1
    have e0 : ((nF : Int) != (ys.length : Int)) = false := by simp [h1]
    have e1 : (xa != f.dfl) = true := by simpa using h2
    clear h1 h2
    go_wp2_with fail
    clear g0 g1 x0 x1 x2 x3 r0 y0 e0 e1
    have FS : Fr [w.heap.size + 1 + 1 + 1 + 1] WC (WC.setCell ⟨w.heap.size + 1 + 1 + 1 + 1, 0, none⟩ (.bool false)) := Fr.setCell _ _ (by simp)
    have KS := heap_setCell_same (i := 0) (.bool false) D4.out
    generalize WC.setCell ⟨w.heap.size + 1 + 1 + 1 + 1, 0, none⟩ (.bool false) = W3 at *
    have k0 : W3.cell? ⟨w.heap.size + 1 + 1 + 1 + 1, 0, none⟩ = some (.bool false) := cell_of_blk KS 0
    refine bodyPost_ret (by simp [results, Tryz.results32, go_sem, k0]; try rfl) rfl ?_
    exact ⟨rfl, F2.out.step FS (fun i hi => by simp at hi; exact .inr (by omega))⟩
  · have e1 : ((nF : Int) != (ys.length : Int)) = true := by simp; omega
    clear h1
    go_wp2_with fail
    clear g0 g1 x0 x1 x2 x3 r0 y0 e1
    have FS : Fr [w.heap.size + 1 + 1 + 1 + 1] WC (WC.setCell ⟨w.heap.size + 1 + 1 + 1 + 1, 0, none⟩ (.bool false)) := Fr.setCell _ _ (by simp)
    have KS := heap_setCell_same (i := 0) (.bool false) D4.out
    generalize WC.setCell ⟨w.heap.size + 1 + 1 + 1 + 1, 0, none⟩ (.bool false) = W3 at *
    have k0 : W3.cell? ⟨w.heap.size + 1 + 1 + 1 + 1, 0, none⟩ = some (.bool false) := cell_of_blk KS 0
    refine bodyPost_ret (by simp [results, Tryz.results32, go_sem, k0]; try rfl) rfl ?_
    exact ⟨rfl, F2.out.step FS (fun i hi => by simp at hi; exact .inr (by omega))⟩

set_option maxRecDepth 100000 in
set_option maxHeartbeats 4000000 in
theorem fCheck_off1 (v : Value) (ys : List RuV) (f : Fl) (vc vp vf : Value) (zsR : List ClV) (b : Rb) (ca cd at_ lv fw : Int) (bk : Bool) (xa xr : Int) (aF aP : Option Addr) (nF pF nP pP : Nat) (w : World) (h : FlAt w v ys f) (hb : RbAt w vc vp vf zsR b) (hc : CaOk ⟨ca, cd, at_, lv, fw, bk⟩) (hg : goodF f b ⟨ca, cd, at_, lv, fw, bk⟩ = true) (hbk : bk = false) (m : Nat) (hr1 : xr = m) (hm : m < ys.length) (hbad : nF = m → xa ≠ ys[m].x.act) :
    Calls Tryz.prog 32 #[flV v f.dfl, rbV vc vp vf, caV ⟨ca, cd, at_, lv, fw, bk⟩, dnV xa xr (.slice aF nF pF) (.slice aP nP pP)] w (Chk false w) := by
  subst hbk
  subst hr1
  obtain ⟨a, cap, rfl⟩ := h.sl.val
  have hl := h.sl.len
  obtain ⟨ac, pc, rfl⟩ := hb.cls.sl.val
  obtain ⟨ar, pr, rfl⟩ := hb.rps.val
  obtain ⟨af, pf, rfl⟩ := hb.fas.val
  have HA := Lib.hid (alloc5f w (.cells #[.slice a ys.length cap, .int .i64 f.dfl] 65) (.cells #[.slice ac zsR.length pc, .slice ar b.rps.length pr, .slice af b.fas.length pf] 30) (.cells #[.int .i64 ca, .int .i64 cd, .int .i64 at_, .int .i64 lv, .int .i64 fw, .bool false] 68) (.cells #[.int .i64 xa, .int .i64 (m : Int), .slice aF nF pF, .slice aP nP pP] 62) (.cells #[.bool false] 4))
  have CO := Lib.hid (fOpen_c _ ys f _ _ _ zsR b ⟨ca, cd, at_, lv, fw, false⟩ _ (h.same HA.out.2.2.2.2.2) (hb.same HA.out.2.2.2.2.2) hc)
  have HFE := Lib.hid h.eq
  have HG := Lib.hid hg
  have HB := Lib.hid hbad
  have HR : Hid (isInB (m : Int) 0 ((ys.length : Int) - 1) = true) := Lib.hid (isInB_iff.2 (by omega))
  have hre : ((m : Int) != -1) = true := by simp
  clear h hb hc hg hbad
  unfold flV caV rbV dnV at *
  simp only at CO HA
  go_enter Tryz.func32, Tryz.ntmps32
  go_wp2_with fail
  refine CO.out.mono ?_
  rintro e w1 ⟨f1, hr⟩
  have F1 := Lib.hid (HA.out.2.2.2.2.2.trans f1)
  have B0 := Lib.hid (f1.keep HA.out.1 (by simp))
  have B1 := Lib.hid (f1.keep HA.out.2.1 (by simp))
  have B2 := Lib.hid (f1.keep HA.out.2.2.1 (by simp))
  have B3 := Lib.hid (f1.keep HA.out.2.2.2.1 (by simp))
  have B4 := Lib.hid (f1.keep HA.out.2.2.2.2.1 (by simp))
  clear f1 CO
  rcases hr with ⟨h0, _⟩ | ⟨_, bd, rfl, hbd, hd⟩
  · simp only at h0; rw [HG.out] at h0; cases h0
  clear hbd
  go_upto_region 2 with fail
  have FD := Fr.alloc [] w1 (.cells #[.pointer (some ⟨bd, 0, none⟩)] 137)
  have D0 := Lib.hid (FD.keep B0.out (by simp)); have D2 := Lib.hid (FD.keep B2.out (by simp)); have D3 := Lib.hid (FD.keep B3.out (by simp)); have D4 := Lib.hid (FD.keep B4.out (by simp))
  have F2 := Lib.hid (F1.out.trans FD)
  have HFD := Lib.hid FD
  clear FD
  generalize w1.alloc (.cells #[.pointer (some ⟨bd, 0, none⟩)] 137) = W2 at *
  have r0 := cell_of_blk D4.out 0
  have y0 := free_of_blk D4.out 0
  have HD := Lib.hid (hd.same HFD.out)
  clear hd r0 y0
  have c5 := cell_of_blk D2.out 5
  have g0 := cell_of_blk D0.out 0; have g1 := cell_of_blk D0.out 1
  go_wp2_with fail
  refine reg_mix (Fr [] W2) [0, 1, 2, 5, 3, 4, 6] (by kernel_rfl) (by kernel_rfl) (by kernel_rfl) rfl (Fr.drew _ _) ?_
  have FC : Fr [] W2 W2.drew := Fr.drew _ _
  generalize W2.drew = WC at FC ⊢
  iterate 7 (refine mix_take1 (v := ?_) rfl rfl rfl rfl (fun w hS => ?_) ?_; rotate_left; (focus (have s0 := hS.cel g0 (by simp); have s1 := hS.cel g1 (by simp); clear hS; go_simp; rfl)); simp only [List.setIfInBounds_toArray, List.set_cons_succ, List.set_cons_zero])
  refine mix_end ?_
  have D0 := Lib.hid (FC.keep D0.out (by simp)); have D2 := Lib.hid (FC.keep D2.out (by simp)); have D3 := Lib.hid (FC.keep D3.out (by simp)); have D4 := Lib.hid (FC.keep D4.out (by simp))
  have F2 := Lib.hid (F2.out.trans FC)
  have HD := Lib.hid (HD.out.same FC)
  clear FC g0 g1 c5
  have g0 := cell_of_blk D0.out 0; have g1 := cell_of_blk D0.out 1
  have x0 := cell_of_blk D3.out 0; have x1 := cell_of_blk D3.out 1; have x2 := cell_of_blk D3.out 2; have x3 := cell_of_blk D3.out 3
  have r0 := cell_of_blk D4.out 0
  have y0 := free_of_blk D4.out 0
  go_wp2_with fail
  refine (fIsIn_c _ _ _ _).mono ?_
  rintro e w00 ⟨rfl, rfl⟩
  rw [HR.out]
  obtain ⟨rb, ro, rcap, hv, hrc⟩ := ruRow_cells HD.out.fl.sl m hm
  cases hv
  have e1 := hrc 1 _ rfl
  clear hrc
  go_wp2_with fail
  refine reg_mix (Fr [] WC) [0, 1, 9, 2, 3, 4, 5, 6, 7, 8, 10] (by kernel_rfl) (by kernel_rfl) (by kernel_rfl) rfl (Fr.drew _ _) ?_
  have FC : Fr [] WC WC.drew := Fr.drew _ _
  generalize WC.drew = WE at FC ⊢
  iterate 11 (refine mix_take1 (v := ?_) rfl rfl rfl rfl (fun w hS => ?_) ?_; rotate_left; (focus (have s0 := hS.cel g0 (by simp); have s1 := hS.cel x1 (by simp); have s2 := hS.cel e1 (by simp); clear hS; go_simp; rfl)); simp only [List.setIfInBounds_toArray, List.set_cons_succ, List.set_cons_zero])
  refine mix_end ?_
  have D0 := Lib.hid (FC.keep D0.out (by simp)); have D2 := Lib.hid (FC.keep D2.out (by simp)); have D3 := Lib.hid (FC.keep D3.out (by simp)); have D4 := Lib.hid (FC.keep D4.out (by simp))
  have F2 := Lib.hid (F2.out.trans FC)
  have HD := Lib.hid (HD.out.same FC)
  clear FC g0 g1 x0 x1 x2 x3 r0 y0 e1
  have g0 := cell_of_blk D0.out 0; have g1 := cell_of_blk D0.out 1
  have x0 := cell_of_blk D3.out 0; have x1 := cell_of_blk D3.out 1; have x2 := cell_of_blk D3.out 2; have x3 := cell_of_blk D3.out 3
  have r0 := cell_of_blk D4.out 0
  have y0 := free_of_blk D4.out 0
  by_cases h1 : nF = m
  · have h2 := HB.out h1
    have e0 : ((nF : Int) != (m : Int)) = false := by simp [h1]
    have e1 : (xa != ys[m].x.act) = true := by simpa using h2
    clear h1 h2
    go_wp2_with fail
    clear g0 g1 x0 x1 x2 x3 r0 y0 e0 e1
    have FS : Fr [w.heap.size + 1 + 1 + 1 + 1] WE (WE.setCell ⟨w.heap.size + 1 + 1 + 1 + 1, 0, none⟩ (.bool false)) := Fr.setCell _ _ (by simp)
    have KS := heap_setCell_same (i := 0) (.bool false) D4.out
    generalize WE.setCell ⟨w.heap.size + 1 + 1 + 1 + 1, 0, none⟩ (.bool false) = W3 at *
    have k0 : W3.cell? ⟨w.heap.size + 1 + 1 + 1 + 1, 0, none⟩ = some (.bool false) := cell_of_blk KS 0
    refine bodyPost_ret (by simp [results, Tryz.results32, go_sem, k0]; try rfl) rfl ?_
    exact ⟨rfl, F2.out.step FS (fun i hi => by simp at hi; exact .inr (by omega))⟩
  · have e1 : ((nF : Int) != (m : Int)) = true := by simp; omega
    clear h1
    go_wp2_with fail
    clear g0 g1 x0 x1 x2 x3 r0 y0 e1
    have FS : Fr [w.heap.size + 1 + 1 + 1 + 1] WE (WE.setCell ⟨w.heap.size + 1 + 1 + 1 + 1, 0, none⟩ (.bool false)) := Fr.setCell _ _ (by simp)
    have KS := heap_setCell_same (i := 0) (.bool false) D4.out
    generalize WE.setCell ⟨w.heap.size + 1 + 1 + 1 + 1, 0, none⟩ (.bool false) = W3 at *
    have k0 : W3.cell? ⟨w.heap.size + 1 + 1 + 1 + 1, 0, none⟩ = some (.bool false) := cell_of_blk KS 0
    refine bodyPost_ret (by simp [results, Tryz.results32, go_sem, k0]; try rfl) rfl ?_
    exact ⟨rfl, F2.out.step FS (fun i hi => by simp at hi; exact .inr (by omega))⟩

end Go.Proofs.YtkopnooajikpmaaGreat
