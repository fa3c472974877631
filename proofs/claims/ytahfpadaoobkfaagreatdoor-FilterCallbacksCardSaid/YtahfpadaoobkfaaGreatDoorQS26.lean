/-
  filter: Valid.
-/
import Derived.Test.YtahfpadaoobkfaaGreatDoorQS25
import Derived.Laws.EntriesVeiled
import Derived.Test.YtahfpadaoobkfaaGreatDoorQS17
import Derived.Test.YtahfpadaoobkfaaGreatDoorQS01
import Derived.Test.YtahfpadaoobkfaaGreatDoorQS03
import Derived.BigQuiet
import Derived.Handy
namespace Go.Proofs.YtahfpadaoobkfaaGreatDoor
open Go.RowKit Go.Lib

set_option maxRecDepth 100000 in
theorem fcfCd_valid (v : Value) (l : List Cd) (B bm : Nat) (w : World) (h : CdsAt w v l) (hB : w.heap[B]? = some (.cells #[.map (some bm)] 153 (0, 0))) (hK : KindsAt w bm) (hok : ∀ x, x ∈ l → CdOk x) :
    Calls Tryz.prog 69 #[v, .func (.func 65) #[] #[.pointer (some ⟨B, 0, none⟩)]] w fun e w' => e = .returned (.bool (!l.all cdB)) ∧ Fr [] w w' := by
  obtain ⟨a, cap, rfl⟩ := h.val
  refine (cfCd_c 65 #[.pointer (some ⟨B, 0, none⟩)] (fun _ _ => rfl) a cap l (fun k => !cdB (l.getD k default)) (fun _ W => Fr [] w W) w (fun k W hJ => h.same hJ) ?_ (Fr.refl _ _)).mono ?_
  · intro k W hk _ hJ
    have hm : l.getD k default ∈ l := by simp [hk]
    refine (fValid1_c (l.getD k default) B bm W (hJ.keep hB (by simp)) (hK.fr hJ) (hok _ hm).kind).mono ?_
    rintro e w' ⟨rfl, f⟩
    exact ⟨rfl, hJ.trans f⟩
  · rintro e w' ⟨rfl, k, hJ⟩
    refine ⟨?_, hJ⟩
    rw [anyN_list l (fun x => !cdB x) default, any_not]

/-- Valid's second function: is a rule bad? -/
theorem fValid2_c (y : RuV) (B BF bm : Nat) (w : World) (h : CdsAt w y.v y.x.cds) (hF : w.heap[BF]? = some (.cells #[.func (.func 65) #[] #[.pointer (some ⟨B, 0, none⟩)]] 151 (0, 0))) (hB : w.heap[B]? = some (.cells #[.map (some bm)] 153 (0, 0))) (hK : KindsAt w bm) (hok : ∀ x, x ∈ y.x.cds → CdOk x) :
    Calls Tryz.prog 68 #[ruV y, .pointer (some ⟨BF, 0, none⟩)] w fun e w' => e = .returned (.bool (!ruB y.x)) ∧ Fr [] w w' := by
  obtain ⟨⟨cds, act⟩, v⟩ := y
  simp only at h hok
  have hl := h.len
  obtain ⟨a, cap, rfl⟩ := h.val
  have FA : Fr [] w (w.alloc (.cells #[.slice a cds.length cap, .int .i64 act] 66)) := Fr.alloc _ _ _
  have CC := Lib.hid (fcfCd_valid _ cds B bm _ (h.same FA) (FA.keep hB (by simp)) (hK.fr FA) hok)
  have d0 := cell_of_blk (FA.keep hF (by simp)) 0
  have HA := Lib.hid FA
  clear h hF hB hK hok FA
  unfold ruV ruB
  simp only
  generalize cds.all cdB = b at *
  by_cases h1 : cds.length ≤ 4
  · have HL : Hid (decide (cds.length ≤ 4) = true) := Lib.hid (by simpa using h1)
    cases h2 : actB act with
    | false =>
      go_enter Tryz.func68, Tryz.ntmps68
      go_wp2_with fail
      refine (fIsAction_c _ _).mono ?_
      rintro e w1 ⟨rfl, rfl⟩
      rw [h2]
      clear h2
      go_wp2_with fail
      go_ret
      exact ⟨by simp, HA.out⟩
    | true =>
      go_enter Tryz.func68, Tryz.ntmps68
      go_wp2_with fail
      refine (fIsAction_c _ _).mono ?_
      rintro e w1 ⟨rfl, rfl⟩
      rw [h2]
      clear h2
      go_wp2_with fail
      refine CC.out.mono ?_
      rintro e w2 ⟨rfl, f2⟩
      go_wp2_with fail
      go_ret
      exact ⟨by have hh : ¬ (4 : Int) < cds.length := by omega
                simp [HL.out, hh], HA.out.trans f2⟩
  · have HL : Hid (decide (cds.length ≤ 4) = false) := Lib.hid (by simpa using h1)
    go_enter Tryz.func68, Tryz.ntmps68
    go_wp2_with fail
    go_ret
    exact ⟨by simp, HA.out⟩

set_option maxRecDepth 100000 in
theorem fcfRu_valid (v : Value) (ys : List RuV) (B BF bm : Nat) (w : World) (h : Sl w v ys.length (ys.flatMap ruC)) (hc : ∀ y, y ∈ ys → CdsAt w y.v y.x.cds) (hF : w.heap[BF]? = some (.cells #[.func (.func 65) #[] #[.pointer (some ⟨B, 0, none⟩)]] 151 (0, 0))) (hB : w.heap[B]? = some (.cells #[.map (some bm)] 153 (0, 0))) (hK : KindsAt w bm) (hok : ∀ y, y ∈ ys → ∀ x, x ∈ y.x.cds → CdOk x) :
    Calls Tryz.prog 67 #[v, .func (.func 68) #[] #[.pointer (some ⟨BF, 0, none⟩)]] w fun e w' => e = .returned (.bool (!(ys.map (·.x)).all ruB)) ∧ Fr [] w w' := by
  obtain ⟨a, cap, rfl⟩ := h.val
  refine (cfRu_c 68 #[.pointer (some ⟨BF, 0, none⟩)] (fun _ _ => rfl) a cap ys (fun k => !ruB (ys.getD k default).x) (fun _ W => Fr [] w W) w (fun k W hJ => h.same hJ) ?_ (Fr.refl _ _)).mono ?_
  · intro k W hk _ hJ
    have hm : ys.getD k default ∈ ys := by simp [hk]
    refine (fValid2_c (ys.getD k default) B BF bm W ((hc _ hm).same hJ) (hJ.keep hF (by simp)) (hJ.keep hB (by simp)) (hK.fr hJ) (hok _ hm)).mono ?_
    rintro e w' ⟨rfl, f⟩
    exact ⟨rfl, hJ.trans f⟩
  · rintro e w' ⟨rfl, k, hJ⟩
    refine ⟨?_, hJ⟩
    rw [anyN_list ys (fun y => !ruB y.x) default, any_not]
    simp [List.all_map, Function.comp_def]

set_option maxRecDepth 100000 in
set_option maxHeartbeats 2000000 in
theorem fValid_c (v : Value) (ys : List RuV) (f : Fl) (w : World) (h : FlAt w v ys f) : Calls Tryz.prog 25 #[flV v f.dfl] w fun e w' => e = .returned (.bool (flB f)) ∧ Fr [] w w' := by
  obtain ⟨a, cap, rfl⟩ := h.sl.val
  have hl := h.sl.len
  have heq := h.eq
  obtain ⟨rus, dfl⟩ := f
  simp only at heq
  subst heq
  unfold flV flB
  simp only
  have hlen : (ys.map (·.x)).length = ys.length := List.length_map ..
  rw [hlen]
  clear hlen
  have F0 : Fr [] w (w.alloc (.cells #[.slice a ys.length cap, .int .i64 dfl] 69)) := Fr.alloc _ _ _
  have HC := Lib.hid fun W (hf : Fr [] w W) B BF bm => fcfRu_valid _ ys B BF bm W (h.sl.same hf) (fun y hy => (h.cds y hy).same hf)
  have HO := Lib.hid fun y (hy : y ∈ ys) => (h.ok y hy).2
  have HF0 := Lib.hid F0
  have HB0 := Lib.hid (heap_alloc_new w (.cells #[.slice a ys.length cap, .int .i64 dfl] 69))
  clear h F0
  go_enter Tryz.func25, Tryz.ntmps25
  go_wp2_with fail
  refine (valids_c _).mono ?_
  rintro e w1 ⟨bm, rfl, hk, f1, hbm⟩
  have HK := Lib.hid (hk.fr ((Fr.alloc [] w1 (.cells #[.map (some bm)] 153)).trans (Fr.alloc [] _ (.cells #[.func (.func 65) #[] #[.pointer (some ⟨w1.heap.size, 0, none⟩)]] 151))))
  have HF := Lib.hid ((HF0.out.trans f1).trans ((Fr.alloc [] w1 (.cells #[.map (some bm)] 153)).trans (Fr.alloc [] _ (.cells #[.func (.func 65) #[] #[.pointer (some ⟨w1.heap.size, 0, none⟩)]] 151))))
  have HA2 := Lib.hid (alloc2' w1 (.cells #[.map (some bm)] 153) (.cells #[.func (.func 65) #[] #[.pointer (some ⟨w1.heap.size, 0, none⟩)]] 151))
  have B1 := f1.keep HB0.out (by simp)
  have hb := blk_lt B1
  have c0 := cell_of_blk B1 0; have c1 := cell_of_blk B1 1
  clear hk f1 hbm B1
  by_cases h1 : ys.length ≤ 20
  · cases h2 : actB dfl with
    | false =>
      go_wp2_with fail
      refine (fIsAction_c _ _).mono ?_
      rintro e w2 ⟨rfl, rfl⟩
      rw [h2]
      have H2 := Lib.hid h2
      clear h2
      go_wp2_with fail
      go_ret
      exact ⟨by simp [H2.out], HF.out⟩
    | true =>
      have CC := Lib.hid (HC.out _ HF.out _ _ _ HA2.out.2 HA2.out.1 HK.out HO.out)
      obtain ⟨b, hb2⟩ : ∃ b, (ys.map (·.x)).all ruB = b := ⟨_, rfl⟩
      rw [hb2] at CC
      have HBB := Lib.hid hb2
      clear hb2
      go_wp2_with fail
      refine (fIsAction_c _ _).mono ?_
      rintro e w2 ⟨rfl, rfl⟩
      rw [h2]
      have H2 := Lib.hid h2
      clear h2
      go_wp2_with fail
      refine CC.out.mono ?_
      rintro e w2 ⟨rfl, f2⟩
      go_wp2_with fail
      go_ret
      exact ⟨by rw [HBB.out, H2.out]; simp [h1], HF.out.trans f2⟩
  · have HL : Hid (decide (ys.length ≤ 20) = false) := Lib.hid (by simpa using h1)
    go_wp2_with fail
    go_ret
    exact ⟨by simp, HF.out⟩

end Go.Proofs.YtahfpadaoobkfaaGreatDoor

/-
  filter: open, question, plain.
-/
namespace Go.Proofs.YtahfpadaoobkfaaGreatDoor
open Go.RowKit Go.Lib

/-- The desk's names. -/
structure De where
  bd : Nat
  vr : Value
  ys : List RuV
  f : Fl
  vc : Value
  vp : Value
  vf : Value
  zs : List ClV
  b : Rb
  c : Ca
abbrev deC (vr : Value) (dfl : Int) (vc vp vf : Value) (c : Ca) : Array Value := #[vr, .int .i64 dfl, vc, vp, vf, .int .i64 c.caller, .int .i64 c.called, .int .i64 c.at_, .int .i64 c.level, .int .i64 c.fwd, .bool c.back]
/-- The desk in memory. -/
structure DeAt (D : De) (w : World) : Prop where
  str : w.heap[D.bd]? = some (.cells (deC D.vr D.f.dfl D.vc D.vp D.vf D.c) 183 (0, 0))
  fl : FlAt w D.vr D.ys D.f
  rb : RbAt w D.vc D.vp D.vf D.zs D.b
  good : goodF D.f D.b D.c = true
  ca : CaOk D.c
theorem DeAt.same {D : De} {w w' : World} (h : DeAt D w) (hf : Fr [] w w') : DeAt D w' := ⟨hf.keep h.str (by simp), h.fl.same hf, h.rb.same hf, h.good, h.ca⟩

/-- What open returns. -/
def FOpened (D : Nat → De) (w : World) (e : Ending) (w' : World) : Prop :=
  Fr [] w w' ∧ ((goodF (D 0).f (D 0).b (D 0).c = false ∧ e = .returned (.tuple #[.pointer none, .int .i64 260])) ∨
    (goodF (D 0).f (D 0).b (D 0).c = true ∧ ∃ bd, e = .returned (.tuple #[.pointer (some ⟨bd, 0, none⟩), .int .i64 0]) ∧ w.heap.size ≤ bd ∧ DeAt (D bd) w'))

set_option maxRecDepth 100000 in
set_option maxHeartbeats 2000000 in
theorem fOpen_c (v : Value) (ys : List RuV) (f : Fl) (vc vp vf : Value) (zs : List ClV) (b : Rb) (c : Ca) (w : World) (h : FlAt w v ys f) (hb : RbAt w vc vp vf zs b) (hc : CaOk c) :
    Calls Tryz.prog 55 #[flV v f.dfl, rbV vc vp vf, caV c] w (FOpened (fun bd => ⟨bd, v, ys, f, vc, vp, vf, zs, b, c⟩) w) := by
  have HA := Lib.hid (alloc3' w (.cells #[v, .int .i64 f.dfl] 69) (.cells #[vc, vp, vf] 36) (.cells #[.int .i64 c.caller, .int .i64 c.called, .int .i64 c.at_, .int .i64 c.level, .int .i64 c.fwd, .bool c.back] 54))
  have FA : Hid (Fr [] w (((w.alloc (.cells #[v, .int .i64 f.dfl] 69)).alloc (.cells #[vc, vp, vf] 36)).alloc (.cells #[.int .i64 c.caller, .int .i64 c.called, .int .i64 c.at_, .int .i64 c.level, .int .i64 c.fwd, .bool c.back] 54))) := Lib.hid (((Fr.alloc _ _ _).trans (Fr.alloc _ _ _)).trans (Fr.alloc _ _ _))
  obtain ⟨a, cap, rfl⟩ := h.sl.val
  obtain ⟨ac, pc, rfl⟩ := hb.cls.sl.val
  obtain ⟨ar, pr, rfl⟩ := hb.rps.val
  obtain ⟨af, pf, rfl⟩ := hb.fas.val
  have C1 := Lib.hid (fValid_c _ ys f _ (h.same FA.out))
  have C2 := Lib.hid fun W (hf : Fr [] w W) => valid_c _ _ _ zs b W (hb.same hf)
  have C3 := Lib.hid fun W => fIsCall_c c W
  have HH := Lib.hid h; have HB := Lib.hid hb
  obtain ⟨ca, cd, at_, lv, fw, bk⟩ := c
  obtain ⟨b1, h1⟩ : ∃ x, flB f = x := ⟨_, rfl⟩
  obtain ⟨b2, h2⟩ : ∃ x, validB b = x := ⟨_, rfl⟩
  obtain ⟨b3, h3⟩ : ∃ x, caB ⟨ca, cd, at_, lv, fw, bk⟩ = x := ⟨_, rfl⟩
  rw [h1] at C1; rw [h2] at C2; rw [h3] at C3
  have HG : Hid (goodF f b ⟨ca, cd, at_, lv, fw, bk⟩ = (b1 && b2 && b3)) := Lib.hid (by unfold goodF; rw [h1, h2, h3])
  have HK := Lib.hid hc
  clear h hb h1 h2 h3 hc
  unfold flV caV at *
  simp only at C3 HA FA
  unfold rbV at *
  cases b1 with
  | false =>
    go_enter Tryz.func55, Tryz.ntmps55
    go_wp2_with fail
    refine C1.out.mono ?_
    rintro e w1 ⟨rfl, f1⟩
    go_wp2_with fail
    go_ret2
    exact ⟨FA.out.trans f1, .inl ⟨by rw [HG.out]; rfl, rfl⟩⟩
  | true =>
    go_enter Tryz.func55, Tryz.ntmps55
    go_wp2_with fail
    refine C1.out.mono ?_
    rintro e w1 ⟨rfl, f1⟩
    have F1 := Lib.hid (FA.out.trans f1)
    have B0 := Lib.hid (f1.keep HA.out.1 (by simp))
    have B1 := Lib.hid (f1.keep HA.out.2.1 (by simp))
    have B2 := Lib.hid (f1.keep HA.out.2.2 (by simp))
    have d0 := cell_of_blk B1.out 0; have d1 := cell_of_blk B1.out 1; have d2 := cell_of_blk B1.out 2
    clear f1
    go_wp2_with fail
    refine (C2.out _ F1.out).mono ?_
    rintro e w2 ⟨rfl, f2⟩
    clear d0 d1 d2
    have F2 := Lib.hid (F1.out.trans f2)
    have D0 := Lib.hid (f2.keep B0.out (by simp))
    have D1 := Lib.hid (f2.keep B1.out (by simp))
    have D2 := Lib.hid (f2.keep B2.out (by simp))
    clear f2
    cases b2 with
    | false =>
      go_wp2_with fail
      go_ret2
      exact ⟨F2.out, .inl ⟨by rw [HG.out]; rfl, rfl⟩⟩
    | true =>
      have d0 := cell_of_blk D2.out 0; have d1 := cell_of_blk D2.out 1; have d2 := cell_of_blk D2.out 2; have d3 := cell_of_blk D2.out 3; have d4 := cell_of_blk D2.out 4; have d5 := cell_of_blk D2.out 5
      go_wp2_with fail
      refine (C3.out _).mono ?_
      rintro e w3 ⟨rfl, f3⟩
      clear d0 d1 d2 d3 d4 d5
      have F3 := Lib.hid (F2.out.trans f3)
      cases b3 with
      | false =>
        clear f3
        go_wp2_with fail
        go_ret2
        exact ⟨F3.out, .inl ⟨by rw [HG.out]; rfl, rfl⟩⟩
      | true =>
        have E0 := f3.keep D0.out (by simp)
        have E1 := f3.keep D1.out (by simp)
        have E2 := f3.keep D2.out (by simp)
        have d0 := cell_of_blk E2 0; have d1 := cell_of_blk E2 1; have d2 := cell_of_blk E2 2; have d3 := cell_of_blk E2 3; have d4 := cell_of_blk E2 4; have d5 := cell_of_blk E2 5
        have e0 := cell_of_blk E1 0; have e1 := cell_of_blk E1 1; have e2 := cell_of_blk E1 2
        have g0 := cell_of_blk E0 0; have g1 := cell_of_blk E0 1
        clear f3 E0 E1 E2
        go_wp2_with fail
        go_ret2
        have FZ := F3.out.trans (Fr.alloc [] w3 (.cells (deC (.slice a ys.length cap) f.dfl (.slice ac zs.length pc) (.slice ar b.rps.length pr) (.slice af b.fas.length pf) ⟨ca, cd, at_, lv, fw, bk⟩) 183))
        exact ⟨FZ, .inr ⟨by rw [HG.out]; rfl, _, rfl, F3.out.size, heap_alloc_new _ _, HH.out.same FZ, HB.out.same FZ, by rw [HG.out]; rfl, HK.out⟩⟩

end Go.Proofs.YtahfpadaoobkfaaGreatDoor

/-
  filter: question, plain.
-/
namespace Go.Proofs.YtahfpadaoobkfaaGreatDoor
open Go.RowKit Go.Lib

theorem DeAt.cells {D : De} {w : World} (h : DeAt D w) : w.cell? ⟨D.bd, 5, none⟩ = some (.int .i64 D.c.caller) ∧ w.cell? ⟨D.bd, 7, none⟩ = some (.int .i64 D.c.at_) ∧ w.cell? ⟨D.bd, 8, none⟩ = some (.int .i64 D.c.level) ∧ w.cell? ⟨D.bd, 9, none⟩ = some (.int .i64 D.c.fwd) :=
  ⟨cell_of_blk h.str 5, cell_of_blk h.str 7, cell_of_blk h.str 8, cell_of_blk h.str 9⟩

set_option maxRecDepth 100000 in
set_option maxHeartbeats 1000000 in
theorem fQuestion_c (D : De) (x : Cd) (w : World) (h : DeAt D w) : Calls Tryz.prog 61 #[.pointer (some ⟨D.bd, 0, none⟩), cdV x] w fun e w' => e = .returned (qnV (qnOf D.c x)) ∧ Fr [] w w' := by
  have A2 := alloc2' w (.cells #[.int .i64 x.kind, .int .i64 x.lo, .int .i64 x.hi, .bool x.neg] 62) (.cells #[.int .i64 0, .int .i64 0, .int .i64 0, .int .i64 0] 142)
  have FA : Fr [] w ((w.alloc (.cells #[.int .i64 x.kind, .int .i64 x.lo, .int .i64 x.hi, .bool x.neg] 62)).alloc (.cells #[.int .i64 0, .int .i64 0, .int .i64 0, .int .i64 0] 142)) := (Fr.alloc _ _ _).trans (Fr.alloc _ _ _)
  have HD := Lib.hid (h.same FA)
  have HA := Lib.hid A2; have HF := Lib.hid FA
  clear h A2 FA
  unfold qnOf
  obtain ⟨bd, vr, ys, f, vc, vp, vf, zs, b, ⟨ca, cd, at_, lv, fw, bk⟩⟩ := D
  obtain ⟨k, lo, hi, ng⟩ := x
  unfold cdV qnV
  simp only at HD HA HF ⊢
  go_enter Tryz.func61, Tryz.ntmps61
  go_wp2_with fail
  refine reg_fin (fun W => W.cell? ⟨w.heap.size, 1, none⟩ = some (.int .i64 lo) ∧ W.cell? ⟨bd, 5, none⟩ = some (.int .i64 ca) ∧ W.cell? ⟨bd, 7, none⟩ = some (.int .i64 at_)) 18 [0, 1, 2, 3, 4, 5, 6, 7, 8, 9, 10, 11, 12, 13, 14, 15, 16, 17, 18] (by kernel_rfl) (by kernel_rfl) (by kernel_rfl) rfl ?_
  have S0 := (⟨cell_of_blk HA.out.1 1, HD.out.cells.1, HD.out.cells.2.1⟩ : _ ∧ _ ∧ _)
  iterate 18 (refine fin_take (v := ?_) rfl rfl rfl rfl S0 (fun w hS => ?_) ?_; rotate_left; (focus (obtain ⟨s0, s1, s2⟩ := hS; go_simp; rfl)); simp only [List.setIfInBounds_toArray, List.set_cons_succ, List.set_cons_zero])
  have t0 := cell_of_blk HA.out.2 0
  have t1 := cell_of_blk HA.out.2 1
  have t2 := cell_of_blk HA.out.2 2
  have t3 := cell_of_blk HA.out.2 3
  refine fin_last rfl rfl rfl (fun K hK => ?_)
  go_simp
  refine hK _ _ ?_
  clear hK K
  clear t0 t1 t2 t3
  go_wp2_with fail
  go_returns
  exact ⟨rfl, ((Fr.alloc _ _ _).trans (Fr.alloc _ _ _)).trans (Fr.drew _ _)⟩

set_option maxRecDepth 100000 in
set_option maxHeartbeats 2000000 in
theorem fPlain_c (D : De) (x : Cd) (w : World) (h : DeAt D w) (hx : cdB x = true) : Calls Tryz.prog 62 #[.pointer (some ⟨D.bd, 0, none⟩), cdV x] w fun e w' => e = .returned (.bool (plainB D.c x)) ∧ Fr [] w w' := by
  have FA : Fr [] w (w.alloc (.cells #[.int .i64 x.kind, .int .i64 x.lo, .int .i64 x.hi, .bool x.neg] 62)) := Fr.alloc _ _ _
  have HD := Lib.hid (h.same FA)
  have HB := Lib.hid (heap_alloc_new w (.cells #[.int .i64 x.kind, .int .i64 x.lo, .int .i64 x.hi, .bool x.neg] 62))
  have HF := Lib.hid FA
  have hat : 0 ≤ D.c.at_ ∧ D.c.at_ ≤ 10000000 := by
    have := h.good
    simp only [goodF, caB, Bool.and_eq_true, isInB_iff] at this
    exact this.2.1.1.2
  clear h FA
  obtain ⟨bd, vr, ys, f, vc, vp, vf, zs, b, ⟨ca, cd, at_, lv, fw, bk⟩⟩ := D
  obtain ⟨k, lo, hi, ng⟩ := x
  simp only at HD HB HF hat
  have hk : 1 ≤ k ∧ k ≤ 5 := by
    simp only [cdB, Bool.and_eq_true, isInB_iff] at hx
    exact hx.1
  have hlh : 0 ≤ lo ∧ 0 ≤ hi ∧ lo ≤ 100000000 ∧ hi ≤ 100000000 := by
    simp only [cdB, cdK, Bool.and_eq_true] at hx
    have := hx.2
    split at this
    · simp [isInB_iff] at this; omega
    · split at this
      · simp at this; omega
      · split at this
        · simp [isInB_iff] at this; omega
        · split at this
          · simp [isInB_iff] at this; omega
          · simp [isInB_iff] at this; omega
  have hrem : at_.tmod 86400 = at_ % 86400 := Int.tmod_eq_emod_of_nonneg hat.1
  have hr2 : 0 ≤ at_ % 86400 ∧ at_ % 86400 < 86400 := ⟨Int.emod_nonneg _ (by omega), Int.emod_lt_of_pos _ (by omega)⟩
  have hw1 : IntKind.i64.wrap (hi - 1) = hi - 1 := IntWalk.i64_in _ (by omega)
  have hw2 : IntKind.i64.wrap (lo - 1) = lo - 1 := IntWalk.i64_in _ (by omega)
  have hw3 : IntKind.i64.wrap (at_ % 86400) = at_ % 86400 := IntWalk.i64_in _ (by omega)
  clear hx
  have d0 := cell_of_blk HB.out 0; have d1 := cell_of_blk HB.out 1; have d2 := cell_of_blk HB.out 2; have d3 := cell_of_blk HB.out 3
  obtain ⟨c5, c7, c8, c9⟩ := HD.out.cells
  simp only at c5 c7 c8 c9
  unfold cdV
  simp only
  have hc : k = 1 ∨ k = 2 ∨ k = 4 ∨ k = 3 ∨ k = 5 := by omega
  rcases hc with rfl | rfl | rfl | rfl | rfl
  · have CI := Lib.hid fun W => fIsIn_c lv lo hi W
    go_enter Tryz.func62, Tryz.ntmps62
    go_wp2_with fail
    refine reg_mix (Fr [] (w.alloc (.cells #[.int .i64 1, .int .i64 lo, .int .i64 hi, .bool ng] 62))) [0, 1, 2, 3, 4, 5, 6, 7, 8, 9, 10] (by kernel_rfl) (by kernel_rfl) (by kernel_rfl) rfl (Fr.drew _ _) ?_
    have FC : Fr [] (w.alloc (.cells #[.int .i64 1, .int .i64 lo, .int .i64 hi, .bool ng] 62)) (w.alloc (.cells #[.int .i64 1, .int .i64 lo, .int .i64 hi, .bool ng] 62)).drew := Fr.drew _ _
    generalize (w.alloc (.cells #[.int .i64 1, .int .i64 lo, .int .i64 hi, .bool ng] 62)).drew = WC at FC ⊢
    iterate 9 (refine mix_take1 (v := ?_) rfl rfl rfl rfl (fun w hS => ?_) ?_; rotate_left; (focus (have s0 := hS.cel d1 (by simp); have s1 := hS.cel d2 (by simp); have s2 := hS.cel c8 (by simp); clear hS; go_simp; rfl)); simp only [List.setIfInBounds_toArray, List.set_cons_succ, List.set_cons_zero])
    refine mix_do rfl rfl rfl (fun K hK => ?_)
    go_simp
    refine (CI.out _).mono ?_
    rintro e w00 ⟨rfl, rfl⟩
    refine hK _ _ FC ?_
    clear hK K
    try simp only [Act.put, List.setIfInBounds_toArray, List.set_cons_succ, List.set_cons_zero]
    (refine mix_take1 (v := ?_) rfl rfl rfl rfl (fun w hS => ?_) ?_; rotate_left; (focus (have s0 := hS.cel d1 (by simp); have s1 := hS.cel d2 (by simp); have s2 := hS.cel c8 (by simp); clear hS; go_simp; rfl)); simp only [List.setIfInBounds_toArray, List.set_cons_succ, List.set_cons_zero])
    refine mix_end ?_
    have e3 := FC.cel d3 (by simp)
    clear d0 d1 d2 d3 c5 c7 c8 c9 hrem hr2 hw1 hw2 hw3
    go_wp2_with fail
    go_ret
    exact ⟨by cases ng <;> simp [plainB, plainK], HF.out.trans FC⟩
  · have CI := Lib.hid fun W => fIsIn_c ca lo (hi - 1) W
    go_enter Tryz.func62, Tryz.ntmps62
    go_wp2_with fail
    refine reg_mix (Fr [] (w.alloc (.cells #[.int .i64 2, .int .i64 lo, .int .i64 hi, .bool ng] 62))) [0, 1, 2, 3, 4, 5, 6, 7, 8, 9, 10, 11] (by kernel_rfl) (by kernel_rfl) (by kernel_rfl) rfl (Fr.drew _ _) ?_
    have FC : Fr [] (w.alloc (.cells #[.int .i64 2, .int .i64 lo, .int .i64 hi, .bool ng] 62)) (w.alloc (.cells #[.int .i64 2, .int .i64 lo, .int .i64 hi, .bool ng] 62)).drew := Fr.drew _ _
    generalize (w.alloc (.cells #[.int .i64 2, .int .i64 lo, .int .i64 hi, .bool ng] 62)).drew = WC at FC ⊢
    iterate 10 (refine mix_take1 (v := ?_) rfl rfl rfl rfl (fun w hS => ?_) ?_; rotate_left; (focus (have s0 := hS.cel d1 (by simp); have s1 := hS.cel d2 (by simp); have s2 := hS.cel c5 (by simp); clear hS; go_simp; rfl)); simp only [List.setIfInBounds_toArray, List.set_cons_succ, List.set_cons_zero])
    refine mix_do rfl rfl rfl (fun K hK => ?_)
    go_simp
    refine (CI.out _).mono ?_
    rintro e w00 ⟨rfl, rfl⟩
    refine hK _ _ FC ?_
    clear hK K
    try simp only [Act.put, List.setIfInBounds_toArray, List.set_cons_succ, List.set_cons_zero]
    (refine mix_take1 (v := ?_) rfl rfl rfl rfl (fun w hS => ?_) ?_; rotate_left; (focus (have s0 := hS.cel d1 (by simp); have s1 := hS.cel d2 (by simp); have s2 := hS.cel c5 (by simp); clear hS; go_simp; rfl)); simp only [List.setIfInBounds_toArray, List.set_cons_succ, List.set_cons_zero])
    refine mix_end ?_
    have e3 := FC.cel d3 (by simp)
    clear d0 d1 d2 d3 c5 c7 c8 c9 hrem hr2 hw1 hw2 hw3
    go_wp2_with fail
    go_ret
    exact ⟨by cases ng <;> simp [plainB, plainK], HF.out.trans FC⟩
  · have CI := Lib.hid fun W => fIsIn_c fw lo hi W
    go_enter Tryz.func62, Tryz.ntmps62
    go_wp2_with fail
    refine reg_mix (Fr [] (w.alloc (.cells #[.int .i64 4, .int .i64 lo, .int .i64 hi, .bool ng] 62))) [0, 1, 2, 3, 4, 5, 6, 7, 8, 9, 10] (by kernel_rfl) (by kernel_rfl) (by kernel_rfl) rfl (Fr.drew _ _) ?_
    have FC : Fr [] (w.alloc (.cells #[.int .i64 4, .int .i64 lo, .int .i64 hi, .bool ng] 62)) (w.alloc (.cells #[.int .i64 4, .int .i64 lo, .int .i64 hi, .bool ng] 62)).drew := Fr.drew _ _
    generalize (w.alloc (.cells #[.int .i64 4, .int .i64 lo, .int .i64 hi, .bool ng] 62)).drew = WC at FC ⊢
    iterate 9 (refine mix_take1 (v := ?_) rfl rfl rfl rfl (fun w hS => ?_) ?_; rotate_left; (focus (have s0 := hS.cel d1 (by simp); have s1 := hS.cel d2 (by simp); have s2 := hS.cel c9 (by simp); clear hS; go_simp; rfl)); simp only [List.setIfInBounds_toArray, List.set_cons_succ, List.set_cons_zero])
    refine mix_do rfl rfl rfl (fun K hK => ?_)
    go_simp
    refine (CI.out _).mono ?_
    rintro e w00 ⟨rfl, rfl⟩
    refine hK _ _ FC ?_
    clear hK K
    try simp only [Act.put, List.setIfInBounds_toArray, List.set_cons_succ, List.set_cons_zero]
    (refine mix_take1 (v := ?_) rfl rfl rfl rfl (fun w hS => ?_) ?_; rotate_left; (focus (have s0 := hS.cel d1 (by simp); have s1 := hS.cel d2 (by simp); have s2 := hS.cel c9 (by simp); clear hS; go_simp; rfl)); simp only [List.setIfInBounds_toArray, List.set_cons_succ, List.set_cons_zero])
    refine mix_end ?_
    have e3 := FC.cel d3 (by simp)
    clear d0 d1 d2 d3 c5 c7 c8 c9 hrem hr2 hw1 hw2 hw3
    go_wp2_with fail
    go_ret
    exact ⟨by cases ng <;> simp [plainB, plainK], HF.out.trans FC⟩
  · by_cases hlt : hi < lo
    · go_enter Tryz.func62, Tryz.ntmps62
      go_wp2_with (first | (go_at_call 51; refine (fIsIn_c _ _ _ _).mono ?_; rintro e w' ⟨rfl, rfl⟩))
      go_ret
      exact ⟨by cases ng <;> simp [plainB, plainK, hlt], HF.out⟩
    · have HP : Hid (plainB ⟨ca, cd, at_, lv, fw, bk⟩ ⟨3, lo, hi, ng⟩ = (isInB (at_ % 86400) lo (hi - 1) != ng)) := Lib.hid (by
        unfold plainB plainK
        simp only [Int.reduceEq, if_false, if_true]
        rw [if_neg hlt])
      go_enter Tryz.func62, Tryz.ntmps62
      go_wp2_with (first | (go_at_call 51; refine (fIsIn_c _ _ _ _).mono ?_; rintro e w' ⟨rfl, rfl⟩))
      go_ret
      exact ⟨by rw [HP.out]; cases ng <;> simp, HF.out⟩
  · go_enter Tryz.func62, Tryz.ntmps62
    go_wp2_with fail
    go_ret
    exact ⟨by simp [plainB, plainK], HF.out⟩

end Go.Proofs.YtahfpadaoobkfaaGreatDoor

/-
  filter: holds.
-/
namespace Go.Proofs.YtahfpadaoobkfaaGreatDoor
open Go.RowKit Go.Lib

/-- Proofs that a call has made. -/
structure PrOwn (w : World) (v : Value) (zs : List PrV) : Prop where
  row : w.ownsRow 0 96 1 v zs.length (zs.map (·.v))
  fds : ∀ z, z ∈ zs → FdRow w z.v z.l
theorem PrOwn.fr {w w' : World} {v : Value} {zs : List PrV} {S : List Nat} (h : PrOwn w v zs) (hf : Fr S w w') (h1 : ∀ g, v.ownBlock = some g → g ∉ S) (h2 : ∀ z, z ∈ zs → ∀ g, z.v.ownBlock = some g → g ∉ S) : PrOwn w' v zs :=
  ⟨ownsRow_keep h.row (fun g hg => hf.block g (ownsRow_lt h.row hg) (h1 g hg)), fun z hz => fdRow_keep (h.fds z hz) (fun g hg => hf.block g (ownsRow_lt (h.fds z hz) hg) (h2 z hz g hg))⟩
theorem PrOwn.same {w w' : World} {v : Value} {zs : List PrV} (h : PrOwn w v zs) (hf : Fr [] w w') : PrOwn w' v zs := h.fr hf (by simp) (by simp)
theorem PrOwn.nil (w : World) : PrOwn w (.slice none 0 0) [] := ⟨⟨rfl, .inl ⟨rfl, rfl⟩⟩, fun z hz => by cases hz⟩
theorem PrOwn.at_ {w : World} {v : Value} {zs : List PrV} (h : PrOwn w v zs) : PrAt w v zs := ⟨sl_of_row h.row, fun z hz => sl_of_row (h.fds z hz)⟩
/-- The elements of proofs lie elsewhere than the slice of them. -/
theorem row_apart {w : World} {e e' : TypeId} {s s' n n' : Nat} {v v' : Value} {xs xs' : List Value} (h : w.ownsRow 0 e s v n xs) (h' : w.ownsRow 0 e' s' v' n' xs') (he : e ≠ e') {g : Nat} (hg : v.ownBlock = some g) : v'.ownBlock ≠ some g := by
  intro hg'
  rcases h.2 with ⟨rfl, _⟩ | ⟨a, c, cur, rfl, _, ha, _⟩
  · cases hg
  · rcases h'.2 with ⟨rfl, _⟩ | ⟨a', c', cur', rfl, _, ha', _⟩
    · cases hg'
    · simp only [Value.ownBlock, Option.some.injEq] at hg hg'
      subst hg hg'
      rw [ha] at ha'
      simp only [Option.some.injEq, Obj.cells.injEq] at ha'
      exact he ha'.2.1
theorem row_box {w : World} {e e' : TypeId} {s n : Nat} {v : Value} {xs : List Value} {b : Nat} {cs : Array Value} {fz : Nat × Nat} (h : w.ownsRow 0 e s v n xs) (hb : w.heap[b]? = some (.cells cs e' fz)) (he : e ≠ e') : v.ownBlock ≠ some b := by
  intro hg
  rcases h.2 with ⟨rfl, _⟩ | ⟨a, c, cur, rfl, _, ha, _⟩
  · cases hg
  · simp only [Value.ownBlock, Option.some.injEq] at hg
    subst hg
    rw [ha] at hb
    simp only [Option.some.injEq, Obj.cells.injEq] at hb
    exact he hb.2.1
theorem row_one (w : World) (v : Value) (e : TypeId) : (w.alloc (.cells #[v] e)).ownsRow 0 e 1 (.slice (some ⟨w.heap.size, 0, none⟩) 1 1) 1 [v] :=
  ⟨rfl, .inr ⟨_, _, _, rfl, Nat.zero_le _, heap_alloc_new _ _, Nat.le_refl _, by decide, rfl, rfl⟩⟩

theorem ask_ok {f : Fl} {b : Rb} {c : Ca} {x : Cd} (h : goodF f b c = true) (hx : cdB x = true) (hk : x.kind = 5) : okB b (qnOf c x) = true := by
  simp only [goodF, Bool.and_eq_true, caB] at h
  simp only [cdB, cdK, hk, Bool.and_eq_true] at hx
  simp only [okB, asksB, qnOf, secB, Bool.and_eq_true]
  refine ⟨h.1.2, ⟨⟨h.2.1.1.1.1, ?_⟩, h.2.1.1.2⟩, h.2.1.1.2⟩
  have := hx.2
  simp [isInB_iff] at this
  exact isInB_iff.2 (by omega)

/-- What holds returns. -/
def Held (D : De) (x : Cd) (w : World) (e : Ending) (w' : World) : Prop :=
  Fr [] w w' ∧ ∃ v zs, e = .returned (.tuple #[.bool (holdsF D.b D.c x), v]) ∧ PrOwn w' v zs ∧ zs.map (·.l) = prfsF D.b D.c x ∧ ∀ g, v.ownBlock = some g → w.heap.size ≤ g

set_option maxRecDepth 100000 in
set_option maxHeartbeats 2000000 in
theorem fHolds_c (D : De) (x : Cd) (w : World) (h : DeAt D w) (hx : cdB x = true) : Calls Tryz.prog 91 #[.pointer (some ⟨D.bd, 0, none⟩), cdV x] w (Held D x w) := by
  have FA : Fr [] w (w.alloc (.cells #[.int .i64 x.kind, .int .i64 x.lo, .int .i64 x.hi, .bool x.neg] 62)) := Fr.alloc _ _ _
  have HD := Lib.hid (h.same FA)
  have HB := Lib.hid (heap_alloc_new w (.cells #[.int .i64 x.kind, .int .i64 x.lo, .int .i64 x.hi, .bool x.neg] 62))
  have HF := Lib.hid FA
  have d0 := cell_of_blk HB.out 0; have d1 := cell_of_blk HB.out 1; have d2 := cell_of_blk HB.out 2; have d3 := cell_of_blk HB.out 3
  by_cases hk : x.kind = 5
  · have HOK := Lib.hid (ask_ok h.good hx hk)
    have HH : Hid (holdsF D.b D.c x = (decideA D.b (qnOf D.c x) != x.neg)) := Lib.hid (by unfold holdsF; rw [if_pos hk])
    have HP : Hid (prfsF D.b D.c x = [decideL D.b (qnOf D.c x)]) := Lib.hid (by unfold prfsF; rw [if_pos hk])
    have CQ := Lib.hid (fQuestion_c D x)
    have CD := Lib.hid fun W (hf : Fr [] w W) => decide_c D.vc D.vp D.vf D.zs D.b (qnOf D.c x) W (h.rb.same hf)
    obtain ⟨q, hq⟩ : ∃ q, qnOf D.c x = q := ⟨_, rfl⟩
    rw [hq] at HOK HH HP CD
    simp only [hq] at CQ
    clear h hx hq FA
    unfold Held
    obtain ⟨k, lo, hi, ng⟩ := x
    simp only at hk
    subst hk
    obtain ⟨bd, vr, ys, f, vc, vp, vf, zs, b, ⟨ca, cd, at_, lv, fw, bk⟩⟩ := D
    unfold cdV at *
    simp only at HD HB HF HH HP CQ CD d0 d1 d2 d3 ⊢
    have c2 : (w.alloc (.cells #[.int .i64 5, .int .i64 lo, .int .i64 hi, .bool ng] 62)).cell? ⟨bd, 2, none⟩ = some vc := cell_of_blk HD.out.str 2
    have c3 : (w.alloc (.cells #[.int .i64 5, .int .i64 lo, .int .i64 hi, .bool ng] 62)).cell? ⟨bd, 3, none⟩ = some vp := cell_of_blk HD.out.str 3
    have c4 : (w.alloc (.cells #[.int .i64 5, .int .i64 lo, .int .i64 hi, .bool ng] 62)).cell? ⟨bd, 4, none⟩ = some vf := cell_of_blk HD.out.str 4
    rw [HH.out, HP.out]
    go_enter Tryz.func91, Tryz.ntmps91
    go_wp2_with fail
    refine reg_mix (Fr [] (w.alloc (.cells #[.int .i64 5, .int .i64 lo, .int .i64 hi, .bool ng] 62))) [0, 1, 2, 3, 4, 5, 6, 7, 8, 9, 12, 10, 13, 11, 14] (by kernel_rfl) (by kernel_rfl) (by kernel_rfl) rfl (Fr.drew _ _) ?_
    have FC : Fr [] (w.alloc (.cells #[.int .i64 5, .int .i64 lo, .int .i64 hi, .bool ng] 62)) (w.alloc (.cells #[.int .i64 5, .int .i64 lo, .int .i64 hi, .bool ng] 62)).drew := Fr.drew _ _
    generalize (w.alloc (.cells #[.int .i64 5, .int .i64 lo, .int .i64 hi, .bool ng] 62)).drew = WC at FC ⊢
    iterate 6 (refine mix_take1 (v := ?_) rfl rfl rfl rfl (fun w hS => ?_) ?_; rotate_left; (focus (have s0 := hS.cel d0 (by simp); have s1 := hS.cel d1 (by simp); have s2 := hS.cel d2 (by simp); have s3 := hS.cel d3 (by simp); have s4 := hS.cel c2 (by simp); have s5 := hS.cel c3 (by simp); have s6 := hS.cel c4 (by simp); clear hS; go_simp; rfl)); simp only [List.setIfInBounds_toArray, List.set_cons_succ, List.set_cons_zero])
    refine mix_do rfl rfl rfl (fun K hK => ?_)
    go_simp
    refine (CQ.out _ (HD.out.same FC)).mono ?_
    rintro e W1 ⟨rfl, f1⟩
    have FC := FC.trans f1
    refine hK _ _ FC ?_
    clear hK K f1
    try simp only [Act.put, List.setIfInBounds_toArray, List.set_cons_succ, List.set_cons_zero]
    refine mix_do rfl rfl rfl (fun K hK => ?_)
    go_simp
    refine (CD.out _ (HF.out.trans FC)).mono ?_
    rintro e W2 ⟨f2, hr⟩
    rcases hr with ⟨h0, _⟩ | ⟨_, v, rfl, hrow, hnew⟩
    · rw [HOK.out] at h0; cases h0
    obtain ⟨va, vq, rfl⟩ := (sl_of_row hrow).val
    have HR := Lib.hid hrow
    have HN : Hid (∀ g, (Value.slice va (decideL b q).length vq).ownBlock = some g → w.heap.size ≤ g) := Lib.hid fun g hg => Nat.le_trans (HF.out.trans FC).size (hnew g hg)
    have FC := FC.trans f2
    refine hK _ _ FC ?_
    clear hK K f2 hrow hnew
    try simp only [Act.put, List.setIfInBounds_toArray, List.set_cons_succ, List.set_cons_zero]
    iterate 7 (refine mix_take1 (v := ?_) rfl rfl rfl rfl (fun w hS => ?_) ?_; rotate_left; (focus (clear hS; go_simp; rfl)); simp only [List.setIfInBounds_toArray, List.set_cons_succ, List.set_cons_zero])
    refine mix_end ?_
    have e3 := FC.cel d3 (by simp)
    clear d0 d1 d2 d3 c2 c3 c4 CQ CD HOK
    go_wp2_with fail
    go_ret2
    have FN := Fr.alloc [] W2 (.cells #[.slice va (decideL b q).length vq] 96)
    refine ⟨(HF.out.trans FC).trans FN, _, [⟨decideL b q, .slice va (decideL b q).length vq⟩], rfl, ⟨row_one _ _ _, fun z hz => ?_⟩, rfl, fun g hg => ?_⟩
    · simp only [List.mem_singleton] at hz
      subst hz
      exact fdRow_keep HR.out (fun g hg => FN.block g (ownsRow_lt HR.out hg) (by simp))
    · cases hg
      exact (HF.out.trans FC).size
  · have HH : Hid (holdsF D.b D.c x = plainB D.c x) := Lib.hid (by unfold holdsF; rw [if_neg hk])
    have HP : Hid (prfsF D.b D.c x = []) := Lib.hid (by unfold prfsF; rw [if_neg hk])
    have CP := Lib.hid (fPlain_c D x _ HD.out hx)
    have hk' : (x.kind != 5) = true := by simpa using hk
    clear h hx hk FA
    unfold Held
    obtain ⟨k, lo, hi, ng⟩ := x
    obtain ⟨bd, vr, ys, f, vc, vp, vf, zs, b, ⟨ca, cd, at_, lv, fw, bk⟩⟩ := D
    unfold cdV at *
    simp only at HD HB HF HH HP CP d0 d1 d2 d3 hk' ⊢
    rw [HH.out, HP.out]
    go_enter Tryz.func91, Tryz.ntmps91
    go_wp2_with fail
    refine CP.out.mono ?_
    rintro e w1 ⟨rfl, f1⟩
    go_wp2_with fail
    go_ret2
    exact ⟨HF.out.trans f1, _, [], rfl, PrOwn.nil _, rfl, fun g hg => by cases hg⟩

end Go.Proofs.YtahfpadaoobkfaaGreatDoor
