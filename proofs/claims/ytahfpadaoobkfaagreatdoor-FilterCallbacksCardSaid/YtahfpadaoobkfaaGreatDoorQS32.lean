/-
  filter: claims, and Check's taking of a proof.
-/
import Derived.Test.YtahfpadaoobkfaaGreatDoorQS31
import Derived.Test.YtahfpadaoobkfaaGreatDoorQS22
namespace Go.Proofs.YtahfpadaoobkfaaGreatDoor
open Go.RowKit Go.Lib

set_option maxRecDepth 100000 in
theorem claims_c (D : De) (act rule : Int) (aF aP : Option Addr) (nF pF nP pP : Nat) (w : World) : Calls Tryz.prog 60 #[.pointer (some ⟨D.bd, 0, none⟩), dnV act rule (.slice aF nF pF) (.slice aP nP pP)] w fun e w' =>
    e = .returned (.func (.func 96) #[] #[.pointer (some ⟨w.heap.size + 1, 0, none⟩), .pointer (some ⟨w.heap.size, 0, none⟩)]) ∧ w' = (w.alloc (.cells #[.pointer (some ⟨D.bd, 0, none⟩)] 134)).alloc (.cells #[.int .i64 act, .int .i64 rule, .slice aF nF pF, .slice aP nP pP] 75) := by
  go_enter Tryz.func60, Tryz.ntmps60
  go_wp2_with fail
  go_ret
  exact ⟨rfl, rfl⟩

theorem PrAt.tail {w : World} {b off cap : Nat} {z : PrV} {zs : List PrV} (h : PrAt w (.slice (some ⟨b, off, none⟩) (zs.length + 1) cap) (z :: zs)) {a : Option Addr} (ha : a = if cap = 1 then some ⟨b, off, none⟩ else some ⟨b, off + 1, none⟩) : PrAt w (.slice a zs.length (cap - 1)) zs := by
  refine ⟨?_, fun y hy => h.fds y (by simp [hy])⟩
  obtain ⟨a', cap', hv, h1, h2, h3⟩ := h.sl
  cases hv
  simp only [List.length_cons] at h1 h3
  refine ⟨a, cap - 1, rfl, by omega, by omega, fun h0 => ?_⟩
  obtain ⟨b', off', hv, hc⟩ := h3 (by omega)
  cases hv
  rw [if_neg (by omega)] at ha
  refine ⟨b, off + 1, ha, fun j u hu => ?_⟩
  have := hc (j + 1) u (by simpa using hu)
  rwa [show off + 1 + j = off + (j + 1) by omega]

/-- What next does; w0: the world before the box of the proofs. -/
def Taken (w0 : World) (b : Rb) (q : Qn) (want : Bool) (bP : Nat) (zs : List PrV) (w : World) (e : Ending) (w' : World) : Prop := match zs with
  | [] => e = .returned (.bool false) ∧ Fr [] w w'
  | z :: zr => e = .returned (.bool (checkB b q want z.l)) ∧ Fr [bP] w w' ∧ ∃ v', w'.heap[bP]? = some (.cells #[v'] 73 (0, 0)) ∧ PrAt w0 v' zr

set_option maxRecDepth 100000 in
set_option maxHeartbeats 2000000 in
theorem fNext_c (w0 : World) (q : Qn) (want : Bool) (bP bB : Nat) (v : Value) (zs : List PrV) (vc vp vf : Value) (ys : List ClV) (b : Rb) (w : World) (hP : w.heap[bP]? = some (.cells #[v] 73 (0, 0))) (hB : w.heap[bB]? = some (.cells #[vc, vp, vf] 36 (0, 0))) (hz : PrAt w0 v zs) (hb : RbAt w0 vc vp vf ys b)
    (h0 : Fr [] w0 w) (hlt : w0.heap.size ≤ bP) : Calls Tryz.prog 58 #[qnV q, .bool want, .pointer (some ⟨bP, 0, none⟩), .pointer (some ⟨bB, 0, none⟩)] w (Taken w0 b q want bP zs w) := by
  have FA : Fr [] w (w.alloc (.cells #[.int .i64 q.thing, .int .i64 q.says, .int .i64 q.at_, .int .i64 q.known] 142)) := Fr.alloc _ _ _
  have HA := Lib.hid FA
  have HP := Lib.hid (FA.keep hP (by simp))
  have HB := Lib.hid (FA.keep hB (by simp))
  have HQ := Lib.hid (heap_alloc_new w (.cells #[.int .i64 q.thing, .int .i64 q.says, .int .i64 q.at_, .int .i64 q.known] 142))
  have H0 := Lib.hid h0
  have hPl := blk_lt hP
  have hne : bB ≠ bP := fun e => by
    subst e
    rw [hP] at hB
    simp at hB
  obtain ⟨ac, pc, rfl⟩ := hb.cls.sl.val
  obtain ⟨ar, pr, rfl⟩ := hb.rps.val
  obtain ⟨af, pf, rfl⟩ := hb.fas.val
  cases zs with
  | nil =>
    obtain ⟨a, cap, rfl⟩ := hz.sl.val
    have c0 : (w.alloc (.cells #[.int .i64 q.thing, .int .i64 q.says, .int .i64 q.at_, .int .i64 q.known] 142)).cell? ⟨bP, 0, none⟩ = some (.slice a 0 cap) := cell_of_blk HP.out 0
    obtain ⟨th, sa, at_, kn⟩ := q
    clear hz hb h0 hP hB FA
    unfold Taken qnV
    simp only at c0 HA ⊢
    go_enter Tryz.func58, Tryz.ntmps58
    go_wp2_with fail
    go_ret
    exact ⟨rfl, HA.out⟩
  | cons z zr =>
    obtain ⟨a, cap, rfl⟩ := hz.sl.val
    obtain ⟨pb, po, rfl, hc⟩ := hz.sl.at_ (by simp)
    obtain ⟨az, pz, hzv⟩ := (hz.fds z (by simp)).val
    have e0 := (H0.out.trans FA).cel (hc 0 z.v (by simp)) (by simp)
    rw [hzv] at e0
    have c0 : (w.alloc (.cells #[.int .i64 q.thing, .int .i64 q.says, .int .i64 q.at_, .int .i64 q.known] 142)).cell? ⟨bP, 0, none⟩ = some (.slice (some ⟨pb, po, none⟩) (zr.length + 1) cap) := cell_of_blk HP.out 0
    have z0 : (w.alloc (.cells #[.int .i64 q.thing, .int .i64 q.says, .int .i64 q.at_, .int .i64 q.known] 142)).frozen? ⟨bP, 0, none⟩ = false := free_of_blk HP.out 0
    have hzl := hz.sl.len
    simp only [List.length_cons] at hzl
    have hcap : zr.length + 1 ≤ cap := by
      obtain ⟨_, _, hv, h1, _⟩ := hz.sl
      cases hv; simpa using h1
    have HT := Lib.hid fun (a : Option Addr) ha => PrAt.tail (a := a) hz ha
    have HFD := Lib.hid (hz.fds z (by simp))
    have HRB := Lib.hid hb
    obtain ⟨th, sa, at_, kn⟩ := q
    obtain ⟨l, vz⟩ := z
    simp only at hzv e0 HFD
    subst hzv
    clear hz hb h0 hP hB FA hc
    unfold Taken qnV
    simp only [Nat.add_zero, List.length_cons] at c0 z0 HA HP HB HQ e0 HT ⊢
    have b0 : (w.alloc (.cells #[.int .i64 th, .int .i64 sa, .int .i64 at_, .int .i64 kn] 142)).cell? ⟨bB, 0, none⟩ = some (.slice ac ys.length pc) := cell_of_blk HB.out 0
    have b1 : (w.alloc (.cells #[.int .i64 th, .int .i64 sa, .int .i64 at_, .int .i64 kn] 142)).cell? ⟨bB, 1, none⟩ = some (.slice ar b.rps.length pr) := cell_of_blk HB.out 1
    have b2 : (w.alloc (.cells #[.int .i64 th, .int .i64 sa, .int .i64 at_, .int .i64 kn] 142)).cell? ⟨bB, 2, none⟩ = some (.slice af b.fas.length pf) := cell_of_blk HB.out 2
    have hnq : w.heap.size ≠ bP := by omega
    have hne' : bP ≠ bB := fun e => hne e.symm
    have hnq' : bP ≠ w.heap.size := fun e => hnq e.symm
    have hnn : ((zr.length : Int) + 1 == 0) = false := by
      simp; omega
    have CK := Lib.hid fun W vl (hf : Fr [] w0 W) => check_c _ _ _ vl ys b ⟨th, sa, at_, kn⟩ want l W (HRB.out.same hf)
    have HS0 := Lib.hid (H0.out.trans HA.out)
    have hPl' : bP < (w.alloc (.cells #[.int .i64 th, .int .i64 sa, .int .i64 at_, .int .i64 kn] 142)).heap.size := blk_lt HP.out
    have hwl := HA.out
    have k0 : (w.alloc (.cells #[.int .i64 th, .int .i64 sa, .int .i64 at_, .int .i64 kn] 142)).cell? ⟨w.heap.size, 0, none⟩ = some (.int .i64 th) := cell_of_blk HQ.out 0
    have k1 : (w.alloc (.cells #[.int .i64 th, .int .i64 sa, .int .i64 at_, .int .i64 kn] 142)).cell? ⟨w.heap.size, 1, none⟩ = some (.int .i64 sa) := cell_of_blk HQ.out 1
    have k2 : (w.alloc (.cells #[.int .i64 th, .int .i64 sa, .int .i64 at_, .int .i64 kn] 142)).cell? ⟨w.heap.size, 2, none⟩ = some (.int .i64 at_) := cell_of_blk HQ.out 2
    have k3 : (w.alloc (.cells #[.int .i64 th, .int .i64 sa, .int .i64 at_, .int .i64 kn] 142)).cell? ⟨w.heap.size, 3, none⟩ = some (.int .i64 kn) := cell_of_blk HQ.out 3
    by_cases hc1 : cap = 1
    all_goals
      have HTT := Lib.hid (HT.out _ rfl)
      simp only [hc1, if_true, if_false] at HTT
      go_enter Tryz.func58, Tryz.ntmps58
      go_upto_region 1 with fail
      generalize w.alloc (.cells #[.int .i64 th, .int .i64 sa, .int .i64 at_, .int .i64 kn] 142) = W1 at *
      go_wp2_with fail
      have FS := fun u => Fr.setCell (fp := [bP]) W1 (p := ⟨bP, 0, none⟩) u (by simp)
      have FW := fun u => HS0.out.step (FS u) (fun i hi => by simp at hi; exact .inr (by omega))
      refine (CK.out _ _ (FW _) (HFD.out.same (FW _))).mono ?_
      rintro e w2 ⟨rfl, f2⟩
      clear b0 b1 b2 k0 k1 k2 k3 c0 z0 e0
      go_wp2_with fail
      go_ret
      exact ⟨rfl, (HA.out.mono (by simp)).trans ((FS _).trans (f2.mono (by simp))), _, f2.keep (heap_setCell_same (i := 0) _ HP.out) (by simp), HTT.out⟩

end Go.Proofs.YtahfpadaoobkfaaGreatDoor

/-
  filter: Check, the ways out ahead of its loop.
-/
namespace Go.Proofs.YtahfpadaoobkfaaGreatDoor
open Go.RowKit Go.Lib

theorem alloc5f (w : World) (x y z u t : Obj) : let W := ((((w.alloc x).alloc y).alloc z).alloc u).alloc t
    W.heap[w.heap.size]? = some x ∧ W.heap[w.heap.size + 1]? = some y ∧ W.heap[w.heap.size + 1 + 1]? = some z ∧ W.heap[w.heap.size + 1 + 1 + 1]? = some u ∧ W.heap[w.heap.size + 1 + 1 + 1 + 1]? = some t ∧ Fr [] w W := by
  have hs : ∀ (w : World) (o : Obj), (w.alloc o).heap.size = w.heap.size + 1 := fun w o => Array.size_push ..
  have h3 := alloc3' w x y z
  have e3 : (((w.alloc x).alloc y).alloc z).heap.size = w.heap.size + 1 + 1 + 1 := by rw [hs, hs, hs]
  have h4 := heap_alloc_new (((w.alloc x).alloc y).alloc z) u
  have h5 := heap_alloc_new ((((w.alloc x).alloc y).alloc z).alloc u) t
  rw [hs, e3] at h5
  rw [e3] at h4
  exact ⟨heap_alloc_old _ (heap_alloc_old _ h3.1), heap_alloc_old _ (heap_alloc_old _ h3.2.1), heap_alloc_old _ (heap_alloc_old _ h3.2.2), heap_alloc_old _ h4, h5, ((((Fr.alloc _ _ _).trans (Fr.alloc _ _ _)).trans (Fr.alloc _ _ _)).trans (Fr.alloc _ _ _)).trans (Fr.alloc _ _ _)⟩

/-- What Check returns. -/
def Chk (r : Bool) (w : World) (e : Ending) (w' : World) : Prop := e = .returned (.bool r) ∧ Fr [] w w'

set_option maxRecDepth 100000 in
set_option maxHeartbeats 4000000 in
theorem fCheck_bad (v : Value) (ys : List RuV) (f : Fl) (vc vp vf : Value) (zsR : List ClV) (b : Rb) (ca cd at_ lv fw : Int) (bk : Bool) (xa xr : Int) (aF aP : Option Addr) (nF pF nP pP : Nat) (w : World) (h : FlAt w v ys f) (hb : RbAt w vc vp vf zsR b) (hc : CaOk ⟨ca, cd, at_, lv, fw, bk⟩) (hg : goodF f b ⟨ca, cd, at_, lv, fw, bk⟩ = false) :
    Calls Tryz.prog 20 #[flV v f.dfl, rbV vc vp vf, caV ⟨ca, cd, at_, lv, fw, bk⟩, dnV xa xr (.slice aF nF pF) (.slice aP nP pP)] w (Chk false w) := by
  obtain ⟨a, cap, rfl⟩ := h.sl.val
  have hl := h.sl.len
  obtain ⟨ac, pc, rfl⟩ := hb.cls.sl.val
  obtain ⟨ar, pr, rfl⟩ := hb.rps.val
  obtain ⟨af, pf, rfl⟩ := hb.fas.val
  have HA := Lib.hid (alloc5f w (.cells #[.slice a ys.length cap, .int .i64 f.dfl] 69) (.cells #[.slice ac zsR.length pc, .slice ar b.rps.length pr, .slice af b.fas.length pf] 36) (.cells #[.int .i64 ca, .int .i64 cd, .int .i64 at_, .int .i64 lv, .int .i64 fw, .bool bk] 54) (.cells #[.int .i64 xa, .int .i64 xr, .slice aF nF pF, .slice aP nP pP] 75) (.cells #[.bool false] 4))
  have CO := Lib.hid (fOpen_c _ ys f _ _ _ zsR b ⟨ca, cd, at_, lv, fw, bk⟩ _ (h.same HA.out.2.2.2.2.2) (hb.same HA.out.2.2.2.2.2) hc)
  have HFE := Lib.hid h.eq
  have HG := Lib.hid hg
  clear h hb hc hg
  unfold flV caV rbV dnV at *
  simp only at CO HA
  go_enter Tryz.func20, Tryz.ntmps20
  go_wp2_with fail
  refine CO.out.mono ?_
  rintro e w1 ⟨f1, hr⟩
  have F1 := Lib.hid (HA.out.2.2.2.2.2.trans f1)
  have B0 := Lib.hid (f1.keep HA.out.1 (by simp))
  have B1 := Lib.hid (f1.keep HA.out.2.1 (by simp))
  have B2 := Lib.hid (f1.keep HA.out.2.2.1 (by simp))
  have B3 := Lib.hid (f1.keep HA.out.2.2.2.1 (by simp))
  have B4 := Lib.hid (f1.keep HA.out.2.2.2.2.1 (by simp))
  clear f1 CO
  rcases hr with ⟨_, rfl⟩ | ⟨h0, _⟩
  rotate_left
  · simp only at h0; rw [HG.out] at h0; cases h0
  go_upto_region 2 with fail
  have FD := Fr.alloc [] w1 (.cells #[.pointer none] 134)
  have D0 := Lib.hid (FD.keep B0.out (by simp)); have D2 := Lib.hid (FD.keep B2.out (by simp)); have D3 := Lib.hid (FD.keep B3.out (by simp)); have D4 := Lib.hid (FD.keep B4.out (by simp))
  have F2 := Lib.hid (F1.out.trans FD)
  clear FD
  generalize w1.alloc (.cells #[.pointer none] 134) = W2 at *
  have r0 := cell_of_blk D4.out 0
  have y0 := free_of_blk D4.out 0
  go_wp2_with fail
  have FS : Fr [w.heap.size + 1 + 1 + 1 + 1] W2 (W2.setCell ⟨w.heap.size + 1 + 1 + 1 + 1, 0, none⟩ (.bool false)) := Fr.setCell _ _ (by simp)
  have KS := heap_setCell_same (i := 0) (.bool false) D4.out
  generalize W2.setCell ⟨w.heap.size + 1 + 1 + 1 + 1, 0, none⟩ (.bool false) = W3 at *
  have k0 : W3.cell? ⟨w.heap.size + 1 + 1 + 1 + 1, 0, none⟩ = some (.bool false) := cell_of_blk KS 0
  refine bodyPost_ret (by simp [results, Tryz.results20, go_sem, k0]; try rfl) rfl ?_
  exact ⟨rfl, F2.out.step FS (fun i hi => by simp at hi; exact .inr (by omega))⟩

set_option maxRecDepth 100000 in
set_option maxHeartbeats 4000000 in
theorem fCheck_back (v : Value) (ys : List RuV) (f : Fl) (vc vp vf : Value) (zsR : List ClV) (b : Rb) (ca cd at_ lv fw : Int) (bk : Bool) (xa xr : Int) (aF aP : Option Addr) (nF pF nP pP : Nat) (w : World) (h : FlAt w v ys f) (hb : RbAt w vc vp vf zsR b) (hc : CaOk ⟨ca, cd, at_, lv, fw, bk⟩) (hg : goodF f b ⟨ca, cd, at_, lv, fw, bk⟩ = true) (hbk : bk = true) (hn : nF ≤ 1000000 ∧ nP ≤ 1000000) :
    Calls Tryz.prog 20 #[flV v f.dfl, rbV vc vp vf, caV ⟨ca, cd, at_, lv, fw, bk⟩, dnV xa xr (.slice aF nF pF) (.slice aP nP pP)] w (Chk (decide (xr = -2) && decide (xa = 1) && decide (nF + nP = 0)) w) := by
  subst hbk
  obtain ⟨hn1, hn2⟩ := hn
  obtain ⟨a, cap, rfl⟩ := h.sl.val
  have hl := h.sl.len
  obtain ⟨ac, pc, rfl⟩ := hb.cls.sl.val
  obtain ⟨ar, pr, rfl⟩ := hb.rps.val
  obtain ⟨af, pf, rfl⟩ := hb.fas.val
  have HA := Lib.hid (alloc5f w (.cells #[.slice a ys.length cap, .int .i64 f.dfl] 69) (.cells #[.slice ac zsR.length pc, .slice ar b.rps.length pr, .slice af b.fas.length pf] 36) (.cells #[.int .i64 ca, .int .i64 cd, .int .i64 at_, .int .i64 lv, .int .i64 fw, .bool true] 54) (.cells #[.int .i64 xa, .int .i64 xr, .slice aF nF pF, .slice aP nP pP] 75) (.cells #[.bool false] 4))
  have CO := Lib.hid (fOpen_c _ ys f _ _ _ zsR b ⟨ca, cd, at_, lv, fw, true⟩ _ (h.same HA.out.2.2.2.2.2) (hb.same HA.out.2.2.2.2.2) hc)
  have HFE := Lib.hid h.eq
  have HG := Lib.hid hg
  clear h hb hc hg
  unfold flV caV rbV dnV at *
  simp only at CO HA
  go_enter Tryz.func20, Tryz.ntmps20
  go_wp2_with fail
  refine CO.out.mono ?_
  rintro e w1 ⟨f1, hr⟩
  have F1 := Lib.hid (HA.out.2.2.2.2.2.trans f1)
  have B0 := Lib.hid (f1.keep HA.out.1 (by simp))
  have B1 := Lib.hid (f1.keep HA.out.2.1 (by simp))
  have B2 := Lib.hid (f1.keep HA.out.2.2.1 (by simp))
  have B3 := Lib.hid (f1.keep HA.out.2.2.2.1 (by simp))
  have B4 := Lib.hid (f1.keep HA.out.2.2.2.2.1 (by simp))
  clear f1 CO
  rcases hr with ⟨h0, _⟩ | ⟨_, bd, rfl, hbd, hd⟩
  · simp only at h0; rw [HG.out] at h0; cases h0
  clear hbd
  go_upto_region 2 with fail
  have FD := Fr.alloc [] w1 (.cells #[.pointer (some ⟨bd, 0, none⟩)] 134)
  have D0 := Lib.hid (FD.keep B0.out (by simp)); have D2 := Lib.hid (FD.keep B2.out (by simp)); have D3 := Lib.hid (FD.keep B3.out (by simp)); have D4 := Lib.hid (FD.keep B4.out (by simp))
  have F2 := Lib.hid (F1.out.trans FD)
  clear FD
  generalize w1.alloc (.cells #[.pointer (some ⟨bd, 0, none⟩)] 134) = W2 at *
  have r0 := cell_of_blk D4.out 0
  have y0 := free_of_blk D4.out 0
  have c5 := cell_of_blk D2.out 5
  have x0 := cell_of_blk D3.out 0; have x1 := cell_of_blk D3.out 1; have x2 := cell_of_blk D3.out 2; have x3 := cell_of_blk D3.out 3
  clear hd
  by_cases h1 : xr = -2
  · subst h1
    by_cases h2 : xa = 1
    · subst h2
      by_cases h3 : nF + nP = 0
      · obtain ⟨rfl, rfl⟩ : nF = 0 ∧ nP = 0 := by omega
        go_wp2_with fail
        clear c5 x0 x1 x2 x3 r0 y0 h3
        have FS : Fr [w.heap.size + 1 + 1 + 1 + 1] W2 (W2.setCell ⟨w.heap.size + 1 + 1 + 1 + 1, 0, none⟩ (.bool true)) := Fr.setCell _ _ (by simp)
        have KS := heap_setCell_same (i := 0) (.bool true) D4.out
        generalize W2.setCell ⟨w.heap.size + 1 + 1 + 1 + 1, 0, none⟩ (.bool true) = W3 at *
        have k0 : W3.cell? ⟨w.heap.size + 1 + 1 + 1 + 1, 0, none⟩ = some (.bool true) := cell_of_blk KS 0
        refine bodyPost_ret (by simp [results, Tryz.results20, go_sem, k0]; try rfl) rfl ?_
        exact ⟨rfl, F2.out.step FS (fun i hi => by simp at hi; exact .inr (by omega))⟩
      · have e3 : ((nF : Int) + (nP : Int) == 0) = false := by simp; omega
        have HX : Hid ((decide (nF = 0) && decide (nP = 0)) = false) := Lib.hid (by rw [← Bool.not_eq_true]; simp only [Bool.and_eq_true, decide_eq_true_eq]; omega)
        clear h3
        go_wp2_with fail
        rw [HX.out]
        clear c5 x0 x1 x2 x3 r0 y0 e3
        have FS : Fr [w.heap.size + 1 + 1 + 1 + 1] W2 (W2.setCell ⟨w.heap.size + 1 + 1 + 1 + 1, 0, none⟩ (.bool false)) := Fr.setCell _ _ (by simp)
        have KS := heap_setCell_same (i := 0) (.bool false) D4.out
        generalize W2.setCell ⟨w.heap.size + 1 + 1 + 1 + 1, 0, none⟩ (.bool false) = W3 at *
        have k0 : W3.cell? ⟨w.heap.size + 1 + 1 + 1 + 1, 0, none⟩ = some (.bool false) := cell_of_blk KS 0
        refine bodyPost_ret (by simp [results, Tryz.results20, go_sem, k0]; try rfl) rfl ?_
        exact ⟨rfl, F2.out.step FS (fun i hi => by simp at hi; exact .inr (by omega))⟩
    · have e2 : (xa == 1) = false := by simpa using h2
      have HX : Hid (decide (xa = 1) = false) := Lib.hid (by simpa using h2)
      clear h2
      go_wp2_with fail
      rw [HX.out]
      clear c5 x0 x1 x2 x3 r0 y0 e2
      have FS : Fr [w.heap.size + 1 + 1 + 1 + 1] W2 (W2.setCell ⟨w.heap.size + 1 + 1 + 1 + 1, 0, none⟩ (.bool false)) := Fr.setCell _ _ (by simp)
      have KS := heap_setCell_same (i := 0) (.bool false) D4.out
      generalize W2.setCell ⟨w.heap.size + 1 + 1 + 1 + 1, 0, none⟩ (.bool false) = W3 at *
      have k0 : W3.cell? ⟨w.heap.size + 1 + 1 + 1 + 1, 0, none⟩ = some (.bool false) := cell_of_blk KS 0
      refine bodyPost_ret (by simp [results, Tryz.results20, go_sem, k0]; try rfl) rfl ?_
      exact ⟨rfl, F2.out.step FS (fun i hi => by simp at hi; exact .inr (by omega))⟩
  · have e1 : (xr == -2) = false := by simpa using h1
    have HX : Hid (decide (xr = -2) = false) := Lib.hid (by simpa using h1)
    clear h1
    go_wp2_with fail
    rw [HX.out]
    clear c5 x0 x1 x2 x3 r0 y0 e1
    have FS : Fr [w.heap.size + 1 + 1 + 1 + 1] W2 (W2.setCell ⟨w.heap.size + 1 + 1 + 1 + 1, 0, none⟩ (.bool false)) := Fr.setCell _ _ (by simp)
    have KS := heap_setCell_same (i := 0) (.bool false) D4.out
    generalize W2.setCell ⟨w.heap.size + 1 + 1 + 1 + 1, 0, none⟩ (.bool false) = W3 at *
    have k0 : W3.cell? ⟨w.heap.size + 1 + 1 + 1 + 1, 0, none⟩ = some (.bool false) := cell_of_blk KS 0
    refine bodyPost_ret (by simp [results, Tryz.results20, go_sem, k0]; try rfl) rfl ?_
    exact ⟨rfl, F2.out.step FS (fun i hi => by simp at hi; exact .inr (by omega))⟩

end Go.Proofs.YtahfpadaoobkfaaGreatDoor

/-
  filter: Check, further ways out ahead of its loop.
-/
namespace Go.Proofs.YtahfpadaoobkfaaGreatDoor
open Go.RowKit Go.Lib

set_option maxRecDepth 100000 in
set_option maxHeartbeats 4000000 in
theorem fCheck_none (v : Value) (ys : List RuV) (f : Fl) (vc vp vf : Value) (zsR : List ClV) (b : Rb) (ca cd at_ lv fw : Int) (bk : Bool) (xa xr : Int) (aF aP : Option Addr) (nF pF nP pP : Nat) (w : World) (h : FlAt w v ys f) (hb : RbAt w vc vp vf zsR b) (hc : CaOk ⟨ca, cd, at_, lv, fw, bk⟩) (hg : goodF f b ⟨ca, cd, at_, lv, fw, bk⟩ = true) (hbk : bk = false) (hr1 : xr ≠ -1) (hr2 : isInB xr 0 (ys.length - 1) = false) :
    Calls Tryz.prog 20 #[flV v f.dfl, rbV vc vp vf, caV ⟨ca, cd, at_, lv, fw, bk⟩, dnV xa xr (.slice aF nF pF) (.slice aP nP pP)] w (Chk false w) := by
  subst hbk
  obtain ⟨a, cap, rfl⟩ := h.sl.val
  have hl := h.sl.len
  obtain ⟨ac, pc, rfl⟩ := hb.cls.sl.val
  obtain ⟨ar, pr, rfl⟩ := hb.rps.val
  obtain ⟨af, pf, rfl⟩ := hb.fas.val
  have HA := Lib.hid (alloc5f w (.cells #[.slice a ys.length cap, .int .i64 f.dfl] 69) (.cells #[.slice ac zsR.length pc, .slice ar b.rps.length pr, .slice af b.fas.length pf] 36) (.cells #[.int .i64 ca, .int .i64 cd, .int .i64 at_, .int .i64 lv, .int .i64 fw, .bool false] 54) (.cells #[.int .i64 xa, .int .i64 xr, .slice aF nF pF, .slice aP nP pP] 75) (.cells #[.bool false] 4))
  have CO := Lib.hid (fOpen_c _ ys f _ _ _ zsR b ⟨ca, cd, at_, lv, fw, false⟩ _ (h.same HA.out.2.2.2.2.2) (hb.same HA.out.2.2.2.2.2) hc)
  have HFE := Lib.hid h.eq
  have HG := Lib.hid hg
  have HR := Lib.hid hr2
  have hre : (xr != -1) = true := by simpa using hr1
  clear h hb hc hg hr1 hr2
  unfold flV caV rbV dnV at *
  simp only at CO HA
  go_enter Tryz.func20, Tryz.ntmps20
  go_wp2_with fail
  refine CO.out.mono ?_
  rintro e w1 ⟨f1, hr⟩
  have F1 := Lib.hid (HA.out.2.2.2.2.2.trans f1)
  have B0 := Lib.hid (f1.keep HA.out.1 (by simp))
  have B1 := Lib.hid (f1.keep HA.out.2.1 (by simp))
  have B2 := Lib.hid (f1.keep HA.out.2.2.1 (by simp))
  have B3 := Lib.hid (f1.keep HA.out.2.2.2.1 (by simp))
  have B4 := Lib.hid (f1.keep HA.out.2.2.2.2.1 (by simp))
  clear f1 CO
  rcases hr with ⟨h0, _⟩ | ⟨_, bd, rfl, hbd, hd⟩
  · simp only at h0; rw [HG.out] at h0; cases h0
  clear hbd
  go_upto_region 2 with fail
  have FD := Fr.alloc [] w1 (.cells #[.pointer (some ⟨bd, 0, none⟩)] 134)
  have D0 := Lib.hid (FD.keep B0.out (by simp)); have D2 := Lib.hid (FD.keep B2.out (by simp)); have D3 := Lib.hid (FD.keep B3.out (by simp)); have D4 := Lib.hid (FD.keep B4.out (by simp))
  have F2 := Lib.hid (F1.out.trans FD)
  have HFD := Lib.hid FD
  clear FD
  generalize w1.alloc (.cells #[.pointer (some ⟨bd, 0, none⟩)] 134) = W2 at *
  have r0 := cell_of_blk D4.out 0
  have y0 := free_of_blk D4.out 0
  have HD := Lib.hid (hd.same HFD.out)
  clear hd r0 y0
  have c5 := cell_of_blk D2.out 5
  have g0 := cell_of_blk D0.out 0; have g1 := cell_of_blk D0.out 1
  go_wp2_with fail
  refine reg_mix (Fr [] W2) [0, 1, 2, 5, 3, 4, 6] (by kernel_rfl) (by kernel_rfl) (by kernel_rfl) rfl (Fr.drew _ _) ?_
  have FC : Fr [] W2 W2.drew := Fr.drew _ _
  generalize W2.drew = WC at FC ⊢
  iterate 7 (refine mix_take1 (v := ?_) rfl rfl rfl rfl (fun w hS => ?_) ?_; rotate_left; (focus (have s0 := hS.cel g0 (by simp); have s1 := hS.cel g1 (by simp); clear hS; go_simp; rfl)); simp only [List.setIfInBounds_toArray, List.set_cons_succ, List.set_cons_zero])
  refine mix_end ?_
  have D0 := Lib.hid (FC.keep D0.out (by simp)); have D2 := Lib.hid (FC.keep D2.out (by simp)); have D3 := Lib.hid (FC.keep D3.out (by simp)); have D4 := Lib.hid (FC.keep D4.out (by simp))
  have F2 := Lib.hid (F2.out.trans FC)
  have HD := Lib.hid (HD.out.same FC)
  clear FC g0 g1 c5
  have g0 := cell_of_blk D0.out 0; have g1 := cell_of_blk D0.out 1
  have x0 := cell_of_blk D3.out 0; have x1 := cell_of_blk D3.out 1; have x2 := cell_of_blk D3.out 2; have x3 := cell_of_blk D3.out 3
  have r0 := cell_of_blk D4.out 0
  have y0 := free_of_blk D4.out 0
  go_wp2_with fail
  refine (fIsIn_c _ _ _ _).mono ?_
  rintro e w00 ⟨rfl, rfl⟩
  rw [HR.out]
  go_wp2_with fail
  clear g0 g1 x0 x1 x2 x3 r0 y0
  have FS : Fr [w.heap.size + 1 + 1 + 1 + 1] WC (WC.setCell ⟨w.heap.size + 1 + 1 + 1 + 1, 0, none⟩ (.bool false)) := Fr.setCell _ _ (by simp)
  have KS := heap_setCell_same (i := 0) (.bool false) D4.out
  generalize WC.setCell ⟨w.heap.size + 1 + 1 + 1 + 1, 0, none⟩ (.bool false) = W3 at *
  have k0 : W3.cell? ⟨w.heap.size + 1 + 1 + 1 + 1, 0, none⟩ = some (.bool false) := cell_of_blk KS 0
  refine bodyPost_ret (by simp [results, Tryz.results20, go_sem, k0]; try rfl) rfl ?_
  exact ⟨rfl, F2.out.step FS (fun i hi => by simp at hi; exact .inr (by omega))⟩

set_option maxRecDepth 100000 in
set_option maxHeartbeats 4000000 in
theorem fCheck_off0 (v : Value) (ys : List RuV) (f : Fl) (vc vp vf : Value) (zsR : List ClV) (b : Rb) (ca cd at_ lv fw : Int) (bk : Bool) (xa xr : Int) (aF aP : Option Addr) (nF pF nP pP : Nat) (w : World) (h : FlAt w v ys f) (hb : RbAt w vc vp vf zsR b) (hc : CaOk ⟨ca, cd, at_, lv, fw, bk⟩) (hg : goodF f b ⟨ca, cd, at_, lv, fw, bk⟩ = true) (hbk : bk = false) (hr1 : xr = -1) (hbad : nF = ys.length → xa ≠ f.dfl) :
    Calls Tryz.prog 20 #[flV v f.dfl, rbV vc vp vf, caV ⟨ca, cd, at_, lv, fw, bk⟩, dnV xa xr (.slice aF nF pF) (.slice aP nP pP)] w (Chk false w) := by
  subst hbk
  subst hr1
  obtain ⟨a, cap, rfl⟩ := h.sl.val
  have hl := h.sl.len
  obtain ⟨ac, pc, rfl⟩ := hb.cls.sl.val
  obtain ⟨ar, pr, rfl⟩ := hb.rps.val
  obtain ⟨af, pf, rfl⟩ := hb.fas.val
  have HA := Lib.hid (alloc5f w (.cells #[.slice a ys.length cap, .int .i64 f.dfl] 69) (.cells #[.slice ac zsR.length pc, .slice ar b.rps.length pr, .slice af b.fas.length pf] 36) (.cells #[.int .i64 ca, .int .i64 cd, .int .i64 at_, .int .i64 lv, .int .i64 fw, .bool false] 54) (.cells #[.int .i64 xa, .int .i64 (-1), .slice aF nF pF, .slice aP nP pP] 75) (.cells #[.bool false] 4))
  have CO := Lib.hid (fOpen_c _ ys f _ _ _ zsR b ⟨ca, cd, at_, lv, fw, false⟩ _ (h.same HA.out.2.2.2.2.2) (hb.same HA.out.2.2.2.2.2) hc)
  have HFE := Lib.hid h.eq
  have HG := Lib.hid hg
  have HB := Lib.hid hbad
  clear h hb hc hg hbad
  unfold flV caV rbV dnV at *
  simp only at CO HA
  go_enter Tryz.func20, Tryz.ntmps20
  go_wp2_with fail
  refine CO.out.mono ?_
  rintro e w1 ⟨f1, hr⟩
  have F1 := Lib.hid (HA.out.2.2.2.2.2.trans f1)
  have B0 := Lib.hid (f1.keep HA.out.1 (by simp))
  have B1 := Lib.hid (f1.keep HA.out.2.1 (by simp))
  have B2 := Lib.hid (f1.keep HA.out.2.2.1 (by simp))
  have B3 := Lib.hid (f1.keep HA.out.2.2.2.1 (by simp))
  have B4 := Lib.hid (f1.keep HA.out.2.2.2.2.1 (by simp))
  clear f1 CO
  rcases hr with ⟨h0, _⟩ | ⟨_, bd, rfl, hbd, hd⟩
  · simp only at h0; rw [HG.out] at h0; cases h0
  clear hbd
  go_upto_region 2 with fail
  have FD := Fr.alloc [] w1 (.cells #[.pointer (some ⟨bd, 0, none⟩)] 134)
  have D0 := Lib.hid (FD.keep B0.out (by simp)); have D2 := Lib.hid (FD.keep B2.out (by simp)); have D3 := Lib.hid (FD.keep B3.out (by simp)); have D4 := Lib.hid (FD.keep B4.out (by simp))
  have F2 := Lib.hid (F1.out.trans FD)
  have HFD := Lib.hid FD
  clear FD
  generalize w1.alloc (.cells #[.pointer (some ⟨bd, 0, none⟩)] 134) = W2 at *
  have r0 := cell_of_blk D4.out 0
  have y0 := free_of_blk D4.out 0
  have HD := Lib.hid (hd.same HFD.out)
  clear hd r0 y0
  have c5 := cell_of_blk D2.out 5
  have g0 := cell_of_blk D0.out 0; have g1 := cell_of_blk D0.out 1
  go_wp2_with fail
  refine reg_mix (Fr [] W2) [0, 1, 2, 5, 3, 4, 6] (by kernel_rfl) (by kernel_rfl) (by kernel_rfl) rfl (Fr.drew _ _) ?_
  have FC : Fr [] W2 W2.drew := Fr.drew _ _
  generalize W2.drew = WC at FC ⊢
  iterate 7 (refine mix_take1 (v := ?_) rfl rfl rfl rfl (fun w hS => ?_) ?_; rotate_left; (focus (have s0 := hS.cel g0 (by simp); have s1 := hS.cel g1 (by simp); clear hS; go_simp; rfl)); simp only [List.setIfInBounds_toArray, List.set_cons_succ, List.set_cons_zero])
  refine mix_end ?_
  have D0 := Lib.hid (FC.keep D0.out (by simp)); have D2 := Lib.hid (FC.keep D2.out (by simp)); have D3 := Lib.hid (FC.keep D3.out (by simp)); have D4 := Lib.hid (FC.keep D4.out (by simp))
  have F2 := Lib.hid (F2.out.trans FC)
  have HD := Lib.hid (HD.out.same FC)
  clear FC g0 g1 c5
  have g0 := cell_of_blk D0.out 0; have g1 := cell_of_blk D0.out 1
  have x0 := cell_of_blk D3.out 0; have x1 := cell_of_blk D3.out 1; have x2 := cell_of_blk D3.out 2; have x3 := cell_of_blk D3.out 3
  have r0 := cell_of_blk D4.out 0
  have y0 := free_of_blk D4.out 0
  clear x1
  have x1 := cell_of_blk D3.out 1
  by_cases h1 : nF = ys.length
  · have h2 := HB.out h1
    have e0 : ((nF : Int) != (ys.length : Int)) = false := by simp [h1]
    have e1 : (xa != f.dfl) = true := by simpa using h2
    clear h1 h2
    go_wp2_with fail
    clear g0 g1 x0 x1 x2 x3 r0 y0 e0 e1
    have FS : Fr [w.heap.size + 1 + 1 + 1 + 1] WC (WC.setCell ⟨w.heap.size + 1 + 1 + 1 + 1, 0, none⟩ (.bool false)) := Fr.setCell _ _ (by simp)
    have KS := heap_setCell_same (i := 0) (.bool false) D4.out
    generalize WC.setCell ⟨w.heap.size + 1 + 1 + 1 + 1, 0, none⟩ (.bool false) = W3 at *
    have k0 : W3.cell? ⟨w.heap.size + 1 + 1 + 1 + 1, 0, none⟩ = some (.bool false) := cell_of_blk KS 0
    refine bodyPost_ret (by simp [results, Tryz.results20, go_sem, k0]; try rfl) rfl ?_
    exact ⟨rfl, F2.out.step FS (fun i hi => by simp at hi; exact .inr (by omega))⟩
  · have e1 : ((nF : Int) != (ys.length : Int)) = true := by simp; omega
    clear h1
    go_wp2_with fail
    clear g0 g1 x0 x1 x2 x3 r0 y0 e1
    have FS : Fr [w.heap.size + 1 + 1 + 1 + 1] WC (WC.setCell ⟨w.heap.size + 1 + 1 + 1 + 1, 0, none⟩ (.bool false)) := Fr.setCell _ _ (by simp)
    have KS := heap_setCell_same (i := 0) (.bool false) D4.out
    generalize WC.setCell ⟨w.heap.size + 1 + 1 + 1 + 1, 0, none⟩ (.bool false) = W3 at *
    have k0 : W3.cell? ⟨w.heap.size + 1 + 1 + 1 + 1, 0, none⟩ = some (.bool false) := cell_of_blk KS 0
    refine bodyPost_ret (by simp [results, Tryz.results20, go_sem, k0]; try rfl) rfl ?_
    exact ⟨rfl, F2.out.step FS (fun i hi => by simp at hi; exact .inr (by omega))⟩

set_option maxRecDepth 100000 in
set_option maxHeartbeats 4000000 in
theorem fCheck_off1 (v : Value) (ys : List RuV) (f : Fl) (vc vp vf : Value) (zsR : List ClV) (b : Rb) (ca cd at_ lv fw : Int) (bk : Bool) (xa xr : Int) (aF aP : Option Addr) (nF pF nP pP : Nat) (w : World) (h : FlAt w v ys f) (hb : RbAt w vc vp vf zsR b) (hc : CaOk ⟨ca, cd, at_, lv, fw, bk⟩) (hg : goodF f b ⟨ca, cd, at_, lv, fw, bk⟩ = true) (hbk : bk = false) (m : Nat) (hr1 : xr = m) (hm : m < ys.length) (hbad : nF = m → xa ≠ ys[m].x.act) :
    Calls Tryz.prog 20 #[flV v f.dfl, rbV vc vp vf, caV ⟨ca, cd, at_, lv, fw, bk⟩, dnV xa xr (.slice aF nF pF) (.slice aP nP pP)] w (Chk false w) := by
  subst hbk
  subst hr1
  obtain ⟨a, cap, rfl⟩ := h.sl.val
  have hl := h.sl.len
  obtain ⟨ac, pc, rfl⟩ := hb.cls.sl.val
  obtain ⟨ar, pr, rfl⟩ := hb.rps.val
  obtain ⟨af, pf, rfl⟩ := hb.fas.val
  have HA := Lib.hid (alloc5f w (.cells #[.slice a ys.length cap, .int .i64 f.dfl] 69) (.cells #[.slice ac zsR.length pc, .slice ar b.rps.length pr, .slice af b.fas.length pf] 36) (.cells #[.int .i64 ca, .int .i64 cd, .int .i64 at_, .int .i64 lv, .int .i64 fw, .bool false] 54) (.cells #[.int .i64 xa, .int .i64 (m : Int), .slice aF nF pF, .slice aP nP pP] 75) (.cells #[.bool false] 4))
  have CO := Lib.hid (fOpen_c _ ys f _ _ _ zsR b ⟨ca, cd, at_, lv, fw, false⟩ _ (h.same HA.out.2.2.2.2.2) (hb.same HA.out.2.2.2.2.2) hc)
  have HFE := Lib.hid h.eq
  have HG := Lib.hid hg
  have HB := Lib.hid hbad
  have HR : Hid (isInB (m : Int) 0 ((ys.length : Int) - 1) = true) := Lib.hid (isInB_iff.2 (by omega))
  have hre : ((m : Int) != -1) = true := by simp
  clear h hb hc hg hbad
  unfold flV caV rbV dnV at *
  simp only at CO HA
  go_enter Tryz.func20, Tryz.ntmps20
  go_wp2_with fail
  refine CO.out.mono ?_
  rintro e w1 ⟨f1, hr⟩
  have F1 := Lib.hid (HA.out.2.2.2.2.2.trans f1)
  have B0 := Lib.hid (f1.keep HA.out.1 (by simp))
  have B1 := Lib.hid (f1.keep HA.out.2.1 (by simp))
  have B2 := Lib.hid (f1.keep HA.out.2.2.1 (by simp))
  have B3 := Lib.hid (f1.keep HA.out.2.2.2.1 (by simp))
  have B4 := Lib.hid (f1.keep HA.out.2.2.2.2.1 (by simp))
  clear f1 CO
  rcases hr with ⟨h0, _⟩ | ⟨_, bd, rfl, hbd, hd⟩
  · simp only at h0; rw [HG.out] at h0; cases h0
  clear hbd
  go_upto_region 2 with fail
  have FD := Fr.alloc [] w1 (.cells #[.pointer (some ⟨bd, 0, none⟩)] 134)
  have D0 := Lib.hid (FD.keep B0.out (by simp)); have D2 := Lib.hid (FD.keep B2.out (by simp)); have D3 := Lib.hid (FD.keep B3.out (by simp)); have D4 := Lib.hid (FD.keep B4.out (by simp))
  have F2 := Lib.hid (F1.out.trans FD)
  have HFD := Lib.hid FD
  clear FD
  generalize w1.alloc (.cells #[.pointer (some ⟨bd, 0, none⟩)] 134) = W2 at *
  have r0 := cell_of_blk D4.out 0
  have y0 := free_of_blk D4.out 0
  have HD := Lib.hid (hd.same HFD.out)
  clear hd r0 y0
  have c5 := cell_of_blk D2.out 5
  have g0 := cell_of_blk D0.out 0; have g1 := cell_of_blk D0.out 1
  go_wp2_with fail
  refine reg_mix (Fr [] W2) [0, 1, 2, 5, 3, 4, 6] (by kernel_rfl) (by kernel_rfl) (by kernel_rfl) rfl (Fr.drew _ _) ?_
  have FC : Fr [] W2 W2.drew := Fr.drew _ _
  generalize W2.drew = WC at FC ⊢
  iterate 7 (refine mix_take1 (v := ?_) rfl rfl rfl rfl (fun w hS => ?_) ?_; rotate_left; (focus (have s0 := hS.cel g0 (by simp); have s1 := hS.cel g1 (by simp); clear hS; go_simp; rfl)); simp only [List.setIfInBounds_toArray, List.set_cons_succ, List.set_cons_zero])
  refine mix_end ?_
  have D0 := Lib.hid (FC.keep D0.out (by simp)); have D2 := Lib.hid (FC.keep D2.out (by simp)); have D3 := Lib.hid (FC.keep D3.out (by simp)); have D4 := Lib.hid (FC.keep D4.out (by simp))
  have F2 := Lib.hid (F2.out.trans FC)
  have HD := Lib.hid (HD.out.same FC)
  clear FC g0 g1 c5
  have g0 := cell_of_blk D0.out 0; have g1 := cell_of_blk D0.out 1
  have x0 := cell_of_blk D3.out 0; have x1 := cell_of_blk D3.out 1; have x2 := cell_of_blk D3.out 2; have x3 := cell_of_blk D3.out 3
  have r0 := cell_of_blk D4.out 0
  have y0 := free_of_blk D4.out 0
  go_wp2_with fail
  refine (fIsIn_c _ _ _ _).mono ?_
  rintro e w00 ⟨rfl, rfl⟩
  rw [HR.out]
  obtain ⟨rb, ro, rcap, hv, hrc⟩ := ruRow_cells HD.out.fl.sl m hm
  cases hv
  have e1 := hrc 1 _ rfl
  clear hrc
  go_wp2_with fail
  refine reg_mix (Fr [] WC) [0, 1, 9, 2, 3, 4, 5, 6, 7, 8, 10] (by kernel_rfl) (by kernel_rfl) (by kernel_rfl) rfl (Fr.drew _ _) ?_
  have FC : Fr [] WC WC.drew := Fr.drew _ _
  generalize WC.drew = WE at FC ⊢
  iterate 11 (refine mix_take1 (v := ?_) rfl rfl rfl rfl (fun w hS => ?_) ?_; rotate_left; (focus (have s0 := hS.cel g0 (by simp); have s1 := hS.cel x1 (by simp); have s2 := hS.cel e1 (by simp); clear hS; go_simp; rfl)); simp only [List.setIfInBounds_toArray, List.set_cons_succ, List.set_cons_zero])
  refine mix_end ?_
  have D0 := Lib.hid (FC.keep D0.out (by simp)); have D2 := Lib.hid (FC.keep D2.out (by simp)); have D3 := Lib.hid (FC.keep D3.out (by simp)); have D4 := Lib.hid (FC.keep D4.out (by simp))
  have F2 := Lib.hid (F2.out.trans FC)
  have HD := Lib.hid (HD.out.same FC)
  clear FC g0 g1 x0 x1 x2 x3 r0 y0 e1
  have g0 := cell_of_blk D0.out 0; have g1 := cell_of_blk D0.out 1
  have x0 := cell_of_blk D3.out 0; have x1 := cell_of_blk D3.out 1; have x2 := cell_of_blk D3.out 2; have x3 := cell_of_blk D3.out 3
  have r0 := cell_of_blk D4.out 0
  have y0 := free_of_blk D4.out 0
  by_cases h1 : nF = m
  · have h2 := HB.out h1
    have e0 : ((nF : Int) != (m : Int)) = false := by simp [h1]
    have e1 : (xa != ys[m].x.act) = true := by simpa using h2
    clear h1 h2
    go_wp2_with fail
    clear g0 g1 x0 x1 x2 x3 r0 y0 e0 e1
    have FS : Fr [w.heap.size + 1 + 1 + 1 + 1] WE (WE.setCell ⟨w.heap.size + 1 + 1 + 1 + 1, 0, none⟩ (.bool false)) := Fr.setCell _ _ (by simp)
    have KS := heap_setCell_same (i := 0) (.bool false) D4.out
    generalize WE.setCell ⟨w.heap.size + 1 + 1 + 1 + 1, 0, none⟩ (.bool false) = W3 at *
    have k0 : W3.cell? ⟨w.heap.size + 1 + 1 + 1 + 1, 0, none⟩ = some (.bool false) := cell_of_blk KS 0
    refine bodyPost_ret (by simp [results, Tryz.results20, go_sem, k0]; try rfl) rfl ?_
    exact ⟨rfl, F2.out.step FS (fun i hi => by simp at hi; exact .inr (by omega))⟩
  · have e1 : ((nF : Int) != (m : Int)) = true := by simp; omega
    clear h1
    go_wp2_with fail
    clear g0 g1 x0 x1 x2 x3 r0 y0 e1
    have FS : Fr [w.heap.size + 1 + 1 + 1 + 1] WE (WE.setCell ⟨w.heap.size + 1 + 1 + 1 + 1, 0, none⟩ (.bool false)) := Fr.setCell _ _ (by simp)
    have KS := heap_setCell_same (i := 0) (.bool false) D4.out
    generalize WE.setCell ⟨w.heap.size + 1 + 1 + 1 + 1, 0, none⟩ (.bool false) = W3 at *
    have k0 : W3.cell? ⟨w.heap.size + 1 + 1 + 1 + 1, 0, none⟩ = some (.bool false) := cell_of_blk KS 0
    refine bodyPost_ret (by simp [results, Tryz.results20, go_sem, k0]; try rfl) rfl ?_
    exact ⟨rfl, F2.out.step FS (fun i hi => by simp at hi; exact .inr (by omega))⟩

end Go.Proofs.YtahfpadaoobkfaaGreatDoor
