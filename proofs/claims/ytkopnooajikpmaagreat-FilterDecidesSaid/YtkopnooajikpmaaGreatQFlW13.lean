/-
  filter: Check, the ways out ahead of its loop.
-/
import Derived.Test.YtkopnooajikpmaaGreatQFI
namespace Go.Proofs.YtkopnooajikpmaaGreat
open Go.RowKit Go.Lib

theorem alloc5f (w : World) (x y z u t : Obj) : let W := ((((w.alloc x).alloc y).alloc z).alloc u).alloc t
    W.heap[w.heap.size]? = some x ∧ W.heap[w.heap.size + 1]? = some y ∧ W.heap[w.heap.size + 1 + 1]? = some z ∧ W.heap[w.heap.size + 1 + 1 + 1]? = some u ∧ W.heap[w.heap.size + 1 + 1 + 1 + 1]? = some t ∧ Fr [] w W := by
  have hs : ∀ (w : World) (o : Obj), (w.alloc o).heap.size = w.heap.size + 1 := fun w o => Array.size_push ..
  have h3 := alloc3' w x y z
  have e3 : (((w.alloc x).alloc y).alloc z).heap.size = w.heap.size + 1 + 1 + 1 := by rw [hs, hs, hs]
  have h4 := heap_alloc_new (((w.alloc x).alloc y).alloc z) u
  have h5 := heap_alloc_new ((((w.alloc x).alloc y).alloc z).alloc u) t
  rw [hs, e3] at h5
  rw [e3] at h4
  exact ⟨heap_alloc_old _ (heap_alloc_old _ h3.1), heap_alloc_old _ (heap_alloc_old _ h3.2.1), heap_alloc_old _ (heap_alloc_old _ h3.2.2), heap_alloc_old _ h4, h5, ((((Fr.alloc _ _ _).trans (Fr.alloc _ _ _)).trans (Fr.alloc _ _ _)).trans (Fr.alloc _ _ _)).trans (Fr.alloc _ _ _)⟩

/-- What Check returns. -/
def Chk (r : Bool) (w : World) (e : Ending) (w' : World) : Prop := e = .returned (.bool r) ∧ Fr [] w w'

set_option maxRecDepth 100000 in
set_option maxHeartbeats 4000000 in
theorem fCheck_bad (v : Value) (ys : List RuV) (f : Fl) (vc vp vf : Value) (zsR : List ClV) (b : Rb) (ca cd at_ lv fw : Int) (bk : Bool) (xa xr : Int) (aF aP : Option Addr) (nF pF nP pP : Nat) (w : World) (h : FlAt w v ys f) (hb : RbAt w vc vp vf zsR b) (hc : CaOk ⟨ca, cd, at_, lv, fw, bk⟩) (hg : goodF f b ⟨ca, cd, at_, lv, fw, bk⟩ = false) :
    Calls Tryz.prog 32 #[flV v f.dfl, rbV vc vp vf, caV ⟨ca, cd, at_, lv, fw, bk⟩, dnV xa xr (.slice aF nF pF) (.slice aP nP pP)] w (Chk false w) := by
  obtain ⟨a, cap, rfl⟩ := h.sl.val
  have hl := h.sl.len
  obtain ⟨ac, pc, rfl⟩ := hb.cls.sl.val
  obtain ⟨ar, pr, rfl⟩ := hb.rps.val
  obtain ⟨af, pf, rfl⟩ := hb.fas.val
  have HA := Lib.hid (alloc5f w (.cells #[.slice a ys.length cap, .int .i64 f.dfl] 65) (.cells #[.slice ac zsR.length pc, .slice ar b.rps.length pr, .slice af b.fas.length pf] 30) (.cells #[.int .i64 ca, .int .i64 cd, .int .i64 at_, .int .i64 lv, .int .i64 fw, .bool bk] 68) (.cells #[.int .i64 xa, .int .i64 xr, .slice aF nF pF, .slice aP nP pP] 62) (.cells #[.bool false] 4))
  have CO := Lib.hid (fOpen_c _ ys f _ _ _ zsR b ⟨ca, cd, at_, lv, fw, bk⟩ _ (h.same HA.out.2.2.2.2.2) (hb.same HA.out.2.2.2.2.2) hc)
  have HFE := Lib.hid h.eq
  have HG := Lib.hid hg
  clear h hb hc hg
  unfold flV caV rbV dnV at *
  simp only at CO HA
  go_enter Tryz.func32, Tryz.ntmps32
  go_wp2_with fail
  refine CO.out.mono ?_
  rintro e w1 ⟨f1, hr⟩
  have F1 := Lib.hid (HA.out.2.2.2.2.2.trans f1)
  have B0 := Lib.hid (f1.keep HA.out.1 (by simp))
  have B1 := Lib.hid (f1.keep HA.out.2.1 (by simp))
  have B2 := Lib.hid (f1.keep HA.out.2.2.1 (by simp))
  have B3 := Lib.hid (f1.keep HA.out.2.2.2.1 (by simp))
  have B4 := Lib.hid (f1.keep HA.out.2.2.2.2.1 (by simp))
  clear f1 CO
  rcases hr with ⟨_, rfl⟩ | ⟨h0, _⟩
  rotate_left
  · simp only at h0; rw [HG.out] at h0; cases h0
  go_upto_region 2 with fail
  have FD := Fr.alloc [] w1 (.cells #[.pointer none] 137)
  have D0 := Lib.hid (FD.keep B0.out (by simp)); have D2 := Lib.hid (FD.keep B2.out (by simp)); have D3 := Lib.hid (FD.keep B3.out (by simp)); have D4 := Lib.hid (FD.keep B4.out (by simp))
  have F2 := Lib.hid (F1.out.trans FD)
  clear FD
  generalize w1.alloc (.cells #[.pointer none] 137) = W2 at *
  have r0 := cell_of_blk D4.out 0
  have y0 := free_of_blk D4.out 0
  go_wp2_with fail
  have FS : Fr [w.heap.size + 1 + 1 + 1 + 1] W2 (W2.setCell ⟨w.heap.size + 1 + 1 + 1 + 1, 0, none⟩ (.bool false)) := Fr.setCell _ _ (by simp)
  have KS := heap_setCell_same (i := 0) (.bool false) D4.out
  generalize W2.setCell ⟨w.heap.size + 1 + 1 + 1 + 1, 0, none⟩ (.bool false) = W3 at *
  have k0 : W3.cell? ⟨w.heap.size + 1 + 1 + 1 + 1, 0, none⟩ = some (.bool false) := cell_of_blk KS 0
  refine bodyPost_ret (by simp [results, Tryz.results32, go_sem, k0]; try rfl) rfl ?_
  exact ⟨rfl, F2.out.step FS (fun i hi => by simp at hi; exact .inr (by omega))⟩

set_option maxRecDepth 100000 in
set_option maxHeartbeats 4000000 in
theorem fCheck_back (v : Value) (ys : List RuV) (f : Fl) (vc vp vf : Value) (zsR : List ClV) (b : Rb) (ca cd at_ lv fw : Int) (bk : Bool) (xa xr : Int) (aF aP : Option Addr) (nF pF nP pP : Nat) (w : World) (h : FlAt w v ys f) (hb : RbAt w vc vp vf zsR b) (hc : CaOk ⟨ca, cd, at_, lv, fw, bk⟩) (hg : goodF f b ⟨ca, cd, at_, lv, fw, bk⟩ = true) (hbk : bk = true) (hn : nF ≤ 1000000 ∧ nP ≤ 1000000) :
    Calls Tryz.prog 32 #[flV v f.dfl, rbV vc vp vf, caV ⟨ca, cd, at_, lv, fw, bk⟩, dnV xa xr (.slice aF nF pF) (.slice aP nP pP)] w (Chk (decide (xr = -2) && decide (xa = 1) && decide (nF + nP = 0)) w) := by
  subst hbk
  obtain ⟨hn1, hn2⟩ := hn
  obtain ⟨a, cap, rfl⟩ := h.sl.val
  have hl := h.sl.len
  obtain ⟨ac, pc, rfl⟩ := hb.cls.sl.val
  obtain ⟨ar, pr, rfl⟩ := hb.rps.val
  obtain ⟨af, pf, rfl⟩ := hb.fas.val
  have HA := Lib.hid (alloc5f w (.cells #[.slice a ys.length cap, .int .i64 f.dfl] 65) (.cells #[.slice ac zsR.length pc, .slice ar b.rps.length pr, .slice af b.fas.length pf] 30) (.cells #[.int .i64 ca, .int .i64 cd, .int .i64 at_, .int .i64 lv, .int .i64 fw, .bool true] 68) (.cells #[.int .i64 xa, .int .i64 xr, .slice aF nF pF, .slice aP nP pP] 62) (.cells #[.bool false] 4))
  have CO := Lib.hid (fOpen_c _ ys f _ _ _ zsR b ⟨ca, cd, at_, lv, fw, true⟩ _ (h.same HA.out.2.2.2.2.2) (hb.same HA.out.2.2.2.2.2) hc)
  have HFE := Lib.hid h.eq
  have HG := Lib.hid hg
  clear h hb hc hg
  unfold flV caV rbV dnV at *
  simp only at CO HA
  go_enter Tryz.func32, Tryz.ntmps32
  go_wp2_with fail
  refine CO.out.mono ?_
  rintro e w1 ⟨f1, hr⟩
  have F1 := Lib.hid (HA.out.2.2.2.2.2.trans f1)
  have B0 := Lib.hid (f1.keep HA.out.1 (by simp))
  have B1 := Lib.hid (f1.keep HA.out.2.1 (by simp))
  have B2 := Lib.hid (f1.keep HA.out.2.2.1 (by simp))
  have B3 := Lib.hid (f1.keep HA.out.2.2.2.1 (by simp))
  have B4 := Lib.hid (f1.keep HA.out.2.2.2.2.1 (by simp))
  clear f1 CO
  rcases hr with ⟨h0, _⟩ | ⟨_, bd, rfl, hbd, hd⟩
  · simp only at h0; rw [HG.out] at h0; cases h0
  clear hbd
  go_upto_region 2 with fail
  have FD := Fr.alloc [] w1 (.cells #[.pointer (some ⟨bd, 0, none⟩)] 137)
  have D0 := Lib.hid (FD.keep B0.out (by simp)); have D2 := Lib.hid (FD.keep B2.out (by simp)); have D3 := Lib.hid (FD.keep B3.out (by simp)); have D4 := Lib.hid (FD.keep B4.out (by simp))
  have F2 := Lib.hid (F1.out.trans FD)
  clear FD
  generalize w1.alloc (.cells #[.pointer (some ⟨bd, 0, none⟩)] 137) = W2 at *
  have r0 := cell_of_blk D4.out 0
  have y0 := free_of_blk D4.out 0
  have c5 := cell_of_blk D2.out 5
  have x0 := cell_of_blk D3.out 0; have x1 := cell_of_blk D3.out 1; have x2 := cell_of_blk D3.out 2; have x3 := cell_of_blk D3.out 3
  clear hd
  by_cases h1 : xr = -2
  · subst h1
    by_cases h2 : xa = 1
    · subst h2
      by_cases h3 : nF + nP = 0
      · obtain ⟨rfl, rfl⟩ : nF = 0 ∧ nP = 0 := by omega
        go_wp2_with fail
        clear c5 x0 x1 x2 x3 r0 y0 h3
        have FS : Fr [w.heap.size + 1 + 1 + 1 + 1] W2 (W2.setCell ⟨w.heap.size + 1 + 1 + 1 + 1, 0, none⟩ (.bool true)) := Fr.setCell _ _ (by simp)
        have KS := heap_setCell_same (i := 0) (.bool true) D4.out
        generalize W2.setCell ⟨w.heap.size + 1 + 1 + 1 + 1, 0, none⟩ (.bool true) = W3 at *
        have k0 : W3.cell? ⟨w.heap.size + 1 + 1 + 1 + 1, 0, none⟩ = some (.bool true) := cell_of_blk KS 0
        refine bodyPost_ret (by simp [results, Tryz.results32, go_sem, k0]; try rfl) rfl ?_
        exact ⟨rfl, F2.out.step FS (fun i hi => by simp at hi; exact .inr (by omega))⟩
      · have e3 : ((nF : Int) + (nP : Int) == 0) = false := by simp; omega
        have HX : Hid ((decide (nF = 0) && decide (nP = 0)) = false) := Lib.hid (by rw [← Bool.not_eq_true]; simp only [Bool.and_eq_true, decide_eq_true_eq]; omega)
        clear h3
        go_wp2_with fail
        rw [HX.out]
        clear c5 x0 x1 x2 x3 r0 y0 e3
        have FS : Fr [w.heap.size + 1 + 1 + 1 + 1] W2 (W2.setCell ⟨w.heap.size + 1 + 1 + 1 + 1, 0, none⟩ (.bool false)) := Fr.setCell _ _ (by simp)
        have KS := heap_setCell_same (i := 0) (.bool false) D4.out
        generalize W2.setCell ⟨w.heap.size + 1 + 1 + 1 + 1, 0, none⟩ (.bool false) = W3 at *
        have k0 : W3.cell? ⟨w.heap.size + 1 + 1 + 1 + 1, 0, none⟩ = some (.bool false) := cell_of_blk KS 0
        refine bodyPost_ret (by simp [results, Tryz.results32, go_sem, k0]; try rfl) rfl ?_
        exact ⟨rfl, F2.out.step FS (fun i hi => by simp at hi; exact .inr (by omega))⟩
    · have e2 : (xa == 1) = false := by simpa using h2
      have HX : Hid (decide (xa = 1) = false) := Lib.hid (by simpa using h2)
      clear h2
      go_wp2_with fail
      rw [HX.out]
      clear c5 x0 x1 x2 x3 r0 y0 e2
      have FS : Fr [w.heap.size + 1 + 1 + 1 + 1] W2 (W2.setCell ⟨w.heap.size + 1 + 1 + 1 + 1, 0, none⟩ (.bool false)) := Fr.setCell _ _ (by simp)
      have KS := heap_setCell_same (i := 0) (.bool false) D4.out
      generalize W2.setCell ⟨w.heap.size + 1 + 1 + 1 + 1, 0, none⟩ (.bool false) = W3 at *
      have k0 : W3.cell? ⟨w.heap.size + 1 + 1 + 1 + 1, 0, none⟩ = some (.bool false) := cell_of_blk KS 0
      refine bodyPost_ret (by simp [results, Tryz.results32, go_sem, k0]; try rfl) rfl ?_
      exact ⟨rfl, F2.out.step FS (fun i hi => by simp at hi; exact .inr (by omega))⟩
  · have e1 : (xr == -2) = false := by simpa using h1
    have HX : Hid (decide (xr = -2) = false) := Lib.hid (by simpa using h1)
    clear h1
    go_wp2_with fail
    rw [HX.out]
    clear c5 x0 x1 x2 x3 r0 y0 e1
    have FS : Fr [w.heap.size + 1 + 1 + 1 + 1] W2 (W2.setCell ⟨w.heap.size + 1 + 1 + 1 + 1, 0, none⟩ (.bool false)) := Fr.setCell _ _ (by simp)
    have KS := heap_setCell_same (i := 0) (.bool false) D4.out
    generalize W2.setCell ⟨w.heap.size + 1 + 1 + 1 + 1, 0, none⟩ (.bool false) = W3 at *
    have k0 : W3.cell? ⟨w.heap.size + 1 + 1 + 1 + 1, 0, none⟩ = some (.bool false) := cell_of_blk KS 0
    refine bodyPost_ret (by simp [results, Tryz.results32, go_sem, k0]; try rfl) rfl ?_
    exact ⟨rfl, F2.out.step FS (fun i hi => by simp at hi; exact .inr (by omega))⟩

end Go.Proofs.YtkopnooajikpmaaGreat
