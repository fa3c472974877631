/-
  filter: Valid.
-/
import Derived.Test.YtkopnooajikpmaaGreatQFlW2
import Derived.Test.YtkopnooajikpmaaGreatQFB
import Derived.Laws.EntriesVeiled
namespace Go.Proofs.YtkopnooajikpmaaGreat
open Go.RowKit Go.Lib

set_option maxRecDepth 100000 in
theorem fcfCd_valid (v : Value) (l : List Cd) (B bm : Nat) (w : World) (h : CdsAt w v l) (hB : w.heap[B]? = some (.cells #[.map (some bm)] 162 (0, 0))) (hK : KindsAt w bm) (hok : ∀ x, x ∈ l → CdOk x) :
    Calls Tryz.prog 104 #[v, .func (.func 100) #[] #[.pointer (some ⟨B, 0, none⟩)]] w fun e w' => e = .returned (.bool (!l.all cdB)) ∧ Fr [] w w' := by
  obtain ⟨a, cap, rfl⟩ := h.val
  refine (cfCd_c 100 #[.pointer (some ⟨B, 0, none⟩)] (fun _ _ => rfl) a cap l (fun k => !cdB (l.getD k default)) (fun _ W => Fr [] w W) w (fun k W hJ => h.same hJ) ?_ (Fr.refl _ _)).mono ?_
  · intro k W hk _ hJ
    have hm : l.getD k default ∈ l := by simp [hk]
    refine (fValid1_c (l.getD k default) B bm W (hJ.keep hB (by simp)) (hK.fr hJ) (hok _ hm).kind).mono ?_
    rintro e w' ⟨rfl, f⟩
    exact ⟨rfl, hJ.trans f⟩
  · rintro e w' ⟨rfl, k, hJ⟩
    refine ⟨?_, hJ⟩
    rw [anyN_list l (fun x => !cdB x) default, any_not]

/-- Valid's second function: is a rule bad? -/
theorem fValid2_c (y : RuV) (B BF bm : Nat) (w : World) (h : CdsAt w y.v y.x.cds) (hF : w.heap[BF]? = some (.cells #[.func (.func 100) #[] #[.pointer (some ⟨B, 0, none⟩)]] 149 (0, 0))) (hB : w.heap[B]? = some (.cells #[.map (some bm)] 162 (0, 0))) (hK : KindsAt w bm) (hok : ∀ x, x ∈ y.x.cds → CdOk x) :
    Calls Tryz.prog 103 #[ruV y, .pointer (some ⟨BF, 0, none⟩)] w fun e w' => e = .returned (.bool (!ruB y.x)) ∧ Fr [] w w' := by
  obtain ⟨⟨cds, act⟩, v⟩ := y
  simp only at h hok
  have hl := h.len
  obtain ⟨a, cap, rfl⟩ := h.val
  have FA : Fr [] w (w.alloc (.cells #[.slice a cds.length cap, .int .i64 act] 82)) := Fr.alloc _ _ _
  have CC := Lib.hid (fcfCd_valid _ cds B bm _ (h.same FA) (FA.keep hB (by simp)) (hK.fr FA) hok)
  have d0 := cell_of_blk (FA.keep hF (by simp)) 0
  have HA := Lib.hid FA
  clear h hF hB hK hok FA
  unfold ruV ruB
  simp only
  generalize cds.all cdB = b at *
  by_cases h1 : cds.length ≤ 4
  · have HL : Hid (decide (cds.length ≤ 4) = true) := Lib.hid (by simpa using h1)
    cases h2 : actB act with
    | false =>
      go_enter Tryz.func103, Tryz.ntmps103
      go_wp2_with fail
      refine (fIsAction_c _ _).mono ?_
      rintro e w1 ⟨rfl, rfl⟩
      rw [h2]
      clear h2
      go_wp2_with fail
      go_ret
      exact ⟨by simp, HA.out⟩
    | true =>
      go_enter Tryz.func103, Tryz.ntmps103
      go_wp2_with fail
      refine (fIsAction_c _ _).mono ?_
      rintro e w1 ⟨rfl, rfl⟩
      rw [h2]
      clear h2
      go_wp2_with fail
      refine CC.out.mono ?_
      rintro e w2 ⟨rfl, f2⟩
      go_wp2_with fail
      go_ret
      exact ⟨by have hh : ¬ (4 : Int) < cds.length := by omega
                simp [HL.out, hh], HA.out.trans f2⟩
  · have HL : Hid (decide (cds.length ≤ 4) = false) := Lib.hid (by simpa using h1)
    go_enter Tryz.func103, Tryz.ntmps103
    go_wp2_with fail
    go_ret
    exact ⟨by simp, HA.out⟩

set_option maxRecDepth 100000 in
theorem fcfRu_valid (v : Value) (ys : List RuV) (B BF bm : Nat) (w : World) (h : Sl w v ys.length (ys.flatMap ruC)) (hc : ∀ y, y ∈ ys → CdsAt w y.v y.x.cds) (hF : w.heap[BF]? = some (.cells #[.func (.func 100) #[] #[.pointer (some ⟨B, 0, none⟩)]] 149 (0, 0))) (hB : w.heap[B]? = some (.cells #[.map (some bm)] 162 (0, 0))) (hK : KindsAt w bm) (hok : ∀ y, y ∈ ys → ∀ x, x ∈ y.x.cds → CdOk x) :
    Calls Tryz.prog 102 #[v, .func (.func 103) #[] #[.pointer (some ⟨BF, 0, none⟩)]] w fun e w' => e = .returned (.bool (!(ys.map (·.x)).all ruB)) ∧ Fr [] w w' := by
  obtain ⟨a, cap, rfl⟩ := h.val
  refine (cfRu_c 103 #[.pointer (some ⟨BF, 0, none⟩)] (fun _ _ => rfl) a cap ys (fun k => !ruB (ys.getD k default).x) (fun _ W => Fr [] w W) w (fun k W hJ => h.same hJ) ?_ (Fr.refl _ _)).mono ?_
  · intro k W hk _ hJ
    have hm : ys.getD k default ∈ ys := by simp [hk]
    refine (fValid2_c (ys.getD k default) B BF bm W ((hc _ hm).same hJ) (hJ.keep hF (by simp)) (hJ.keep hB (by simp)) (hK.fr hJ) (hok _ hm)).mono ?_
    rintro e w' ⟨rfl, f⟩
    exact ⟨rfl, hJ.trans f⟩
  · rintro e w' ⟨rfl, k, hJ⟩
    refine ⟨?_, hJ⟩
    rw [anyN_list ys (fun y => !ruB y.x) default, any_not]
    simp [List.all_map, Function.comp_def]

set_option maxRecDepth 100000 in
set_option maxHeartbeats 2000000 in
theorem fValid_c (v : Value) (ys : List RuV) (f : Fl) (w : World) (h : FlAt w v ys f) : Calls Tryz.prog 76 #[flV v f.dfl] w fun e w' => e = .returned (.bool (flB f)) ∧ Fr [] w w' := by
  obtain ⟨a, cap, rfl⟩ := h.sl.val
  have hl := h.sl.len
  have heq := h.eq
  obtain ⟨rus, dfl⟩ := f
  simp only at heq
  subst heq
  unfold flV flB
  simp only
  have hlen : (ys.map (·.x)).length = ys.length := List.length_map ..
  rw [hlen]
  clear hlen
  have F0 : Fr [] w (w.alloc (.cells #[.slice a ys.length cap, .int .i64 dfl] 65)) := Fr.alloc _ _ _
  have HC := Lib.hid fun W (hf : Fr [] w W) B BF bm => fcfRu_valid _ ys B BF bm W (h.sl.same hf) (fun y hy => (h.cds y hy).same hf)
  have HO := Lib.hid fun y (hy : y ∈ ys) => (h.ok y hy).2
  have HF0 := Lib.hid F0
  have HB0 := Lib.hid (heap_alloc_new w (.cells #[.slice a ys.length cap, .int .i64 dfl] 65))
  clear h F0
  go_enter Tryz.func76, Tryz.ntmps76
  go_wp2_with fail
  refine (valids_c _).mono ?_
  rintro e w1 ⟨bm, rfl, hk, f1, hbm⟩
  have HK := Lib.hid (hk.fr ((Fr.alloc [] w1 (.cells #[.map (some bm)] 162)).trans (Fr.alloc [] _ (.cells #[.func (.func 100) #[] #[.pointer (some ⟨w1.heap.size, 0, none⟩)]] 149))))
  have HF := Lib.hid ((HF0.out.trans f1).trans ((Fr.alloc [] w1 (.cells #[.map (some bm)] 162)).trans (Fr.alloc [] _ (.cells #[.func (.func 100) #[] #[.pointer (some ⟨w1.heap.size, 0, none⟩)]] 149))))
  have HA2 := Lib.hid (alloc2' w1 (.cells #[.map (some bm)] 162) (.cells #[.func (.func 100) #[] #[.pointer (some ⟨w1.heap.size, 0, none⟩)]] 149))
  have B1 := f1.keep HB0.out (by simp)
  have hb := blk_lt B1
  have c0 := cell_of_blk B1 0; have c1 := cell_of_blk B1 1
  clear hk f1 hbm B1
  by_cases h1 : ys.length ≤ 20
  · cases h2 : actB dfl with
    | false =>
      go_wp2_with fail
      refine (fIsAction_c _ _).mono ?_
      rintro e w2 ⟨rfl, rfl⟩
      rw [h2]
      have H2 := Lib.hid h2
      clear h2
      go_wp2_with fail
      go_ret
      exact ⟨by simp [H2.out], HF.out⟩
    | true =>
      have CC := Lib.hid (HC.out _ HF.out _ _ _ HA2.out.2 HA2.out.1 HK.out HO.out)
      obtain ⟨b, hb2⟩ : ∃ b, (ys.map (·.x)).all ruB = b := ⟨_, rfl⟩
      rw [hb2] at CC
      have HBB := Lib.hid hb2
      clear hb2
      go_wp2_with fail
      refine (fIsAction_c _ _).mono ?_
      rintro e w2 ⟨rfl, rfl⟩
      rw [h2]
      have H2 := Lib.hid h2
      clear h2
      go_wp2_with fail
      refine CC.out.mono ?_
      rintro e w2 ⟨rfl, f2⟩
      go_wp2_with fail
      go_ret
      exact ⟨by rw [HBB.out, H2.out]; simp [h1], HF.out.trans f2⟩
  · have HL : Hid (decide (ys.length ≤ 20) = false) := Lib.hid (by simpa using h1)
    go_wp2_with fail
    go_ret
    exact ⟨by simp, HF.out⟩

end Go.Proofs.YtkopnooajikpmaaGreat
