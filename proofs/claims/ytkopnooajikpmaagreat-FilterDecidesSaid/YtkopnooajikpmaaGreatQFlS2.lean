/-
  dialtonelaw26: decides.
-/
import Derived.Test.YtkopnooajikpmaaGreatQFlS1
import Derived.Test.YtkopnooajikpmaaGreatQRg
import Derived.Deep.CutBlock
import Derived.Deep.DeepCutAuto
namespace Go.Proofs.YtkopnooajikpmaaGreat
open Go.RowKit Go.Lib

theorem noPanic_normal {Q : Exit → Act → World → Prop} {a : Act} {w : World} (h : Q .normal a w) : NoPanic Q .normal a w := h
theorem decided26 {c : Ca} {act rule : Int} {F : List Int} (hc : CaOk c) (hg : goodF exF rb0 c = true) (hd : decF exF rb0 c = ⟨act, rule, F, []⟩) (v : Value) (ys : List RuV) (w : World) (h : FlAt w v ys exF) :
    Calls Tryz.prog 31 #[flV v 1, .agg #[.slice none 0 0, .slice none 0 0, .slice none 0 0], .agg #[.int .i64 c.caller, .int .i64 c.called, .int .i64 c.at_, .int .i64 c.level, .int .i64 c.fwd, .bool c.back]] w fun e w' => Fr [] w w' ∧ ∃ aF' pF' aP' pP', e = .returned (.tuple #[.agg #[.int .i64 act, .int .i64 rule, .slice aF' F.length pF', .slice aP' 0 pP'], .int .i64 0]) ∧ w'.ownsRow 0 3 1 (.slice aF' F.length pF') F.length (intC F) := by
  refine (fDecide_c v ys exF _ _ _ [] rb0 c w h (rb0_at _) hc).mono ?_
  rintro r w3 ⟨f3, h3⟩
  obtain ⟨_, vF', vP', zs, he, h4⟩ := h3.resolve_left (fun hh => by rw [hg] at hh; cases hh.1)
  clear h3
  rw [hd] at h4 he
  have hzl : zs = [] := List.map_eq_nil_iff.1 h4.eq
  subst hzl
  obtain ⟨aF', pF', rfl⟩ := (sl_of_row h4.fails).val
  obtain ⟨aP', pP', rfl⟩ := (sl_of_row h4.own.row).val
  exact ⟨f3, aF', pF', aP', pP', he, h4.fails⟩

theorem checked26 {c : Ca} {act rule : Int} {F : List Int} (hc : CaOk c) (hg : goodF exF rb0 c = true) (hk : checkF exF rb0 c ⟨act, rule, F, []⟩ = true) (v : Value) (ys : List RuV) (w : World) (h : FlAt w v ys exF) (af : Option Addr) (pf : Nat) (hF : IntsAt w (.slice af F.length pf) F) (hl : F.length ≤ 100) :
    Calls Tryz.prog 32 #[flV v 1, .agg #[.slice none 0 0, .slice none 0 0, .slice none 0 0], .agg #[.int .i64 c.caller, .int .i64 c.called, .int .i64 c.at_, .int .i64 c.level, .int .i64 c.fwd, .bool c.back], .agg #[.int .i64 act, .int .i64 rule, .slice af F.length pf, .slice none 0 0]] w fun e w' => e = .returned (.bool true) ∧ Fr [] w w' := by
  refine (fCheck_c v ys exF _ _ _ [] rb0 c (.slice af F.length pf) (.slice none 0 0) ⟨act, rule, F, []⟩ [] w h (rb0_at _) hc hF (PrOwn.nil _).at_ rfl ⟨by show F.length ≤ 1000000; omega, by simp⟩).mono ?_
  rintro r w3 h3
  rw [hg, hk] at h3
  exact h3

set_option maxRecDepth 100000 in
set_option maxHeartbeats 4000000 in
theorem decides26_c (c : Ca) (act rule : Int) (vF : Value) (F : List Int) (w : World) (hF : IntsAt w vF F) (hc : CaOk c) (hg : goodF exF rb0 c = true) (hd : decF exF rb0 c = ⟨act, rule, F, []⟩) (hk : checkF exF rb0 c ⟨act, rule, F, []⟩ = true) (hl : F.length ≤ 100) :
    Calls Tryz.prog 74 #[caV c, .int .i64 act, .int .i64 rule, vF] w fun e w' => e = .returned (.bool true) ∧ Fr [] w w' := by
  obtain ⟨af, pf, rfl⟩ := hF.val
  have HF := Lib.hid hF; have HC := Lib.hid hc; have HG := Lib.hid hg; have HD := Lib.hid hd; have HK := Lib.hid hk
  clear hF hc hg hd hk
  have CDD := Lib.hid (decided26 HC.out HG.out HD.out)
  obtain ⟨ca, cd, at_, lv, fw, bk⟩ := c
  simp only at CDD
  go_enter Tryz.func74, Tryz.ntmps74
  go_upto_region 2 with fail
  go_cut [10, 11] (fun s10 s11 W => ∃ (g : Nat) (aF' aP' : Option Addr) (pF' pP' : Nat), s10 = .pointer (some ⟨g, 0, none⟩) ∧ s11 = .int .i64 0 ∧ Hid (Fr [] w W ∧ (W.heap[w.heap.size]? = some (.cells #[.int .i64 ca, .int .i64 cd, .int .i64 at_, .int .i64 lv, .int .i64 fw, .bool bk] 68) ∧ W.heap[w.heap.size + 1]? = some (.cells #[.int .i64 act, .int .i64 rule, .slice af F.length pf, .slice none 0 0] 62)) ∧ W.heap[g]? = some (.cells #[.int .i64 act, .int .i64 rule, .slice aF' F.length pF', .slice aP' 0 pP'] 62)) ∧ Hid (IntsAt W (.slice aF' F.length pF') F))
  case first =>
    refine reg_tree (fun W => W.heap[w.heap.size]? = some (.cells #[.int .i64 ca, .int .i64 cd, .int .i64 at_, .int .i64 lv, .int .i64 fw, .bool bk] 68)) 9 (.take 1 (.take 2 (.two 0 7 (.two 3 7 (.take 4 (.take 5 (.take 6 (.one 7 (.one 8 (.one 9 .nil)))))) (.one 3 (.take 4 (.take 5 (.take 6 (.one 8 (.one 9 .nil))))))) (.one 0 (.one 3 (.take 4 (.take 5 (.take 6 (.one 8 (.one 9 .nil)))))))))) (by kernel_rfl) (by kernel_rfl) (by kernel_rfl) rfl ?_
    have AA := alloc2' w (.cells #[.int .i64 ca, .int .i64 cd, .int .i64 at_, .int .i64 lv, .int .i64 fw, .bool bk] 68) (.cells #[.int .i64 act, .int .i64 rule, .slice af F.length pf, .slice none 0 0] 62)
    have fd := (Fr.alloc [] w (.cells #[.int .i64 ca, .int .i64 cd, .int .i64 at_, .int .i64 lv, .int .i64 fw, .bool bk] 68)).trans (Fr.alloc [] _ (.cells #[.int .i64 act, .int .i64 rule, .slice af F.length pf, .slice none 0 0] 62))
    generalize (w.alloc (.cells #[.int .i64 ca, .int .i64 cd, .int .i64 at_, .int .i64 lv, .int .i64 fw, .bool bk] 68)).alloc (.cells #[.int .i64 act, .int .i64 rule, .slice af F.length pf, .slice none 0 0] 62) = W0 at AA fd ⊢
    have HAA := Lib.hid (And.intro fd AA)
    have hw0 : w.heap.size + 1 < W0.heap.size := blk_lt AA.2
    have S0 := (Fr.drew [] W0).keep AA.1 (by simp)
    have FW := Lib.hid (Fr.drew [] W0)
    generalize W0.drew = WD at S0 FW ⊢
    clear AA fd
    have hl0 : W0.heap.size ≤ WD.heap.size := FW.out.size
    refine tree_take (v := ?_) rfl rfl rfl S0 (fun w hS => ?_) ?_
    rotate_left
    (focus (go_simp; rfl))
    simp only [List.setIfInBounds_toArray, List.set_cons_succ, List.set_cons_zero]
    refine tree_take (v := ?_) rfl rfl rfl S0 (fun w hS => ?_) ?_
    rotate_left
    (focus (have s0 := cell_of_blk hS 0; have s1 := cell_of_blk hS 1; have s2 := cell_of_blk hS 2; have s3 := cell_of_blk hS 3; have s4 := cell_of_blk hS 4; have s5 := cell_of_blk hS 5; go_simp; rfl))
    simp only [List.setIfInBounds_toArray, List.set_cons_succ, List.set_cons_zero]
    refine ⟨?_, ?_⟩
    · refine tree_op rfl rfl (fun K hK => ?_)
      go_simp
      refine (example26_c _).mono ?_
      rintro r w2 ⟨f2, av, ys, rfl, hv⟩
      refine hK _ _ (f2.keep S0 (by simp)) ?_
      replace S0 := f2.keep S0 (by simp)
      replace FW := Lib.hid (FW.out.trans f2)
      have HV := Lib.hid hv
      have hl2 : W0.heap.size ≤ w2.heap.size := FW.out.size
      clear f2 hv
      clear hK K
      try simp only [Act.put, List.setIfInBounds_toArray, List.set_cons_succ, List.set_cons_zero]
      refine ⟨?_, ?_⟩
      · refine tree_op rfl rfl (fun K hK => ?_)
        go_simp
        refine (CDD.out _ ys _ HV.out).mono ?_
        rintro r w3 ⟨f3, aF', pF', aP', pP', rfl, h3⟩
        have HF3 : Hid (w3.ownsRow 0 3 1 (.slice aF' F.length pF') F.length (intC F)) := Lib.hid h3
        refine hK _ _ (f3.keep S0 (by simp)) ?_
        replace S0 := f3.keep S0 (by simp)
        replace FW := Lib.hid (FW.out.trans f3)
        have hl3 : W0.heap.size ≤ w3.heap.size := FW.out.size
        clear f3 h3
        clear hK K
        try simp only [Act.put, List.setIfInBounds_toArray, List.set_cons_succ, List.set_cons_zero]
        refine tree_take (v := ?_) rfl rfl rfl S0 (fun w hS => ?_) ?_
        rotate_left
        (focus (go_simp; rfl))
        simp only [List.setIfInBounds_toArray, List.set_cons_succ, List.set_cons_zero]
        refine tree_take (v := ?_) rfl rfl rfl S0 (fun w hS => ?_) ?_
        rotate_left
        (focus (go_simp; rfl))
        simp only [List.setIfInBounds_toArray, List.set_cons_succ, List.set_cons_zero]
        refine tree_take (v := ?_) rfl rfl rfl S0 (fun w hS => ?_) ?_
        rotate_left
        (focus (go_simp; rfl))
        simp only [List.setIfInBounds_toArray, List.set_cons_succ, List.set_cons_zero]
        refine tree_one rfl rfl (fun K hK => ?_)
        go_simp
        have fa := Fr.alloc [] w3 (.cells #[.int .i64 0, .int .i64 0, .slice none 0 0, .slice none 0 0] 62)
        have BA := heap_alloc_new w3 (.cells #[.int .i64 0, .int .i64 0, .slice none 0 0, .slice none 0 0] 62)
        refine hK _ _ (fa.keep S0 (by simp)) ?_
        replace S0 := fa.keep S0 (by simp)
        replace FW := Lib.hid (FW.out.trans fa)
        replace HF3 := Lib.hid (row_fr HF3.out fa (by simp))
        clear fa
        clear hK K
        try simp only [Act.put, List.setIfInBounds_toArray, List.set_cons_succ, List.set_cons_zero]
        generalize w3.alloc (.cells #[.int .i64 0, .int .i64 0, .slice none 0 0, .slice none 0 0] 62) = WA at *
        generalize w3.heap.size = gA at *
        refine tree_one rfl rfl (fun K hK => ?_)
        have t0 := cell_of_blk BA 0; have t1 := cell_of_blk BA 1; have t2 := cell_of_blk BA 2; have t3 := cell_of_blk BA 3
        have u0 := free_of_blk BA 0; have u1 := free_of_blk BA 1; have u2 := free_of_blk BA 2; have u3 := free_of_blk BA 3
        go_simp
        try go_upon
        try go_simp
        obtain ⟨KS, FS⟩ := set4 BA (.int .i64 act) (.int .i64 rule) (.slice aF' F.length pF') (.slice aP' 0 pP')
        have SZ := FS.keep S0 (by simp; omega)
        refine hK _ _ SZ ?_
        clear t0 t1 t2 t3 u0 u1 u2 u3 S0
        have HKS := Lib.hid KS
        have FZ := Lib.hid (FW.out.step FS (fun i hi => by simp at hi; exact .inr (by omega)))
        have HFZ := Lib.hid (sl_of_row (row_fr HF3.out FS (fun g hg hm => by rw [List.mem_singleton] at hm; subst hm; exact row_box HF3.out BA (by decide) hg)))
        clear hK K
        try simp only [Act.put, List.setIfInBounds_toArray, List.set_cons_succ, List.set_cons_zero]
        refine tree_last rfl rfl (fun K hK => ?_)
        go_simp
        refine hK _ _ ?_
        clear hK K
        refine noPanic_normal ?_
        go_wp2_with fail
        go_meet
        case rel => exact ⟨_, aF', aP', pF', pP', rfl, rfl, Lib.hid ⟨HAA.out.1.trans FZ.out, ⟨FZ.out.keep HAA.out.2.1 (by simp), FZ.out.keep HAA.out.2.2 (by simp)⟩, HKS.out⟩, HFZ⟩
      · refine tree_op rfl rfl (fun K hK => ?_)
        go_simp
        have fa := Fr.alloc [] w2 (.cells #[.int .i64 0, .int .i64 0, .slice none 0 0, .slice none 0 0] 62)
        have BA := heap_alloc_new w2 (.cells #[.int .i64 0, .int .i64 0, .slice none 0 0, .slice none 0 0] 62)
        refine hK _ _ (fa.keep S0 (by simp)) ?_
        replace S0 := fa.keep S0 (by simp)
        replace FW := Lib.hid (FW.out.trans fa)
        replace HV := Lib.hid (HV.out.same fa)
        clear fa
        clear hK K
        try simp only [Act.put, List.setIfInBounds_toArray, List.set_cons_succ, List.set_cons_zero]
        generalize w2.alloc (.cells #[.int .i64 0, .int .i64 0, .slice none 0 0, .slice none 0 0] 62) = WA at *
        generalize w2.heap.size = gA at *
        refine tree_one rfl rfl (fun K hK => ?_)
        go_simp
        refine (CDD.out _ ys _ HV.out).mono ?_
        rintro r w3 ⟨f3, aF', pF', aP', pP', rfl, h3⟩
        have HF3 : Hid (w3.ownsRow 0 3 1 (.slice aF' F.length pF') F.length (intC F)) := Lib.hid h3
        refine hK _ _ (f3.keep S0 (by simp)) ?_
        replace S0 := f3.keep S0 (by simp)
        replace FW := Lib.hid (FW.out.trans f3)
        replace BA := f3.keep BA (by simp)
        clear f3 h3
        clear hK K
        try simp only [Act.put, List.setIfInBounds_toArray, List.set_cons_succ, List.set_cons_zero]
        refine tree_take (v := ?_) rfl rfl rfl S0 (fun w hS => ?_) ?_
        rotate_left
        (focus (go_simp; rfl))
        simp only [List.setIfInBounds_toArray, List.set_cons_succ, List.set_cons_zero]
        refine tree_take (v := ?_) rfl rfl rfl S0 (fun w hS => ?_) ?_
        rotate_left
        (focus (go_simp; rfl))
        simp only [List.setIfInBounds_toArray, List.set_cons_succ, List.set_cons_zero]
        refine tree_take (v := ?_) rfl rfl rfl S0 (fun w hS => ?_) ?_
        rotate_left
        (focus (go_simp; rfl))
        simp only [List.setIfInBounds_toArray, List.set_cons_succ, List.set_cons_zero]
        refine tree_one rfl rfl (fun K hK => ?_)
        have t0 := cell_of_blk BA 0; have t1 := cell_of_blk BA 1; have t2 := cell_of_blk BA 2; have t3 := cell_of_blk BA 3
        have u0 := free_of_blk BA 0; have u1 := free_of_blk BA 1; have u2 := free_of_blk BA 2; have u3 := free_of_blk BA 3
        go_simp
        try go_upon
        try go_simp
        obtain ⟨KS, FS⟩ := set4 BA (.int .i64 act) (.int .i64 rule) (.slice aF' F.length pF') (.slice aP' 0 pP')
        have SZ := FS.keep S0 (by simp; omega)
        refine hK _ _ SZ ?_
        clear t0 t1 t2 t3 u0 u1 u2 u3 S0
        have HKS := Lib.hid KS
        have FZ := Lib.hid (FW.out.step FS (fun i hi => by simp at hi; exact .inr (by omega)))
        have HFZ := Lib.hid (sl_of_row (row_fr HF3.out FS (fun g hg hm => by rw [List.mem_singleton] at hm; subst hm; exact row_box HF3.out BA (by decide) hg)))
        clear hK K
        try simp only [Act.put, List.setIfInBounds_toArray, List.set_cons_succ, List.set_cons_zero]
        refine tree_last rfl rfl (fun K hK => ?_)
        go_simp
        refine hK _ _ ?_
        clear hK K
        refine noPanic_normal ?_
        go_wp2_with fail
        go_meet
        case rel => exact ⟨_, aF', aP', pF', pP', rfl, rfl, Lib.hid ⟨HAA.out.1.trans FZ.out, ⟨FZ.out.keep HAA.out.2.1 (by simp), FZ.out.keep HAA.out.2.2 (by simp)⟩, HKS.out⟩, HFZ⟩
    · refine tree_op rfl rfl (fun K hK => ?_)
      go_simp
      have fa := Fr.alloc [] WD (.cells #[.int .i64 0, .int .i64 0, .slice none 0 0, .slice none 0 0] 62)
      have BA := heap_alloc_new WD (.cells #[.int .i64 0, .int .i64 0, .slice none 0 0, .slice none 0 0] 62)
      refine hK _ _ (fa.keep S0 (by simp)) ?_
      replace S0 := fa.keep S0 (by simp)
      replace FW := Lib.hid (FW.out.trans fa)
      clear fa
      clear hK K
      try simp only [Act.put, List.setIfInBounds_toArray, List.set_cons_succ, List.set_cons_zero]
      generalize WD.alloc (.cells #[.int .i64 0, .int .i64 0, .slice none 0 0, .slice none 0 0] 62) = WA at *
      generalize WD.heap.size = gA at *
      refine tree_one rfl rfl (fun K hK => ?_)
      go_simp
      refine (example26_c _).mono ?_
      rintro r w2 ⟨f2, av, ys, rfl, hv⟩
      refine hK _ _ (f2.keep S0 (by simp)) ?_
      replace S0 := f2.keep S0 (by simp)
      replace FW := Lib.hid (FW.out.trans f2)
      have HV := Lib.hid hv
      replace BA := f2.keep BA (by simp)
      clear f2 hv
      clear hK K
      try simp only [Act.put, List.setIfInBounds_toArray, List.set_cons_succ, List.set_cons_zero]
      refine tree_one rfl rfl (fun K hK => ?_)
      go_simp
      refine (CDD.out _ ys _ HV.out).mono ?_
      rintro r w3 ⟨f3, aF', pF', aP', pP', rfl, h3⟩
      have HF3 : Hid (w3.ownsRow 0 3 1 (.slice aF' F.length pF') F.length (intC F)) := Lib.hid h3
      refine hK _ _ (f3.keep S0 (by simp)) ?_
      replace S0 := f3.keep S0 (by simp)
      replace FW := Lib.hid (FW.out.trans f3)
      replace BA := f3.keep BA (by simp)
      clear f3 h3
      clear hK K
      try simp only [Act.put, List.setIfInBounds_toArray, List.set_cons_succ, List.set_cons_zero]
      refine tree_take (v := ?_) rfl rfl rfl S0 (fun w hS => ?_) ?_
      rotate_left
      (focus (go_simp; rfl))
      simp only [List.setIfInBounds_toArray, List.set_cons_succ, List.set_cons_zero]
      refine tree_take (v := ?_) rfl rfl rfl S0 (fun w hS => ?_) ?_
      rotate_left
      (focus (go_simp; rfl))
      simp only [List.setIfInBounds_toArray, List.set_cons_succ, List.set_cons_zero]
      refine tree_take (v := ?_) rfl rfl rfl S0 (fun w hS => ?_) ?_
      rotate_left
      (focus (go_simp; rfl))
      simp only [List.setIfInBounds_toArray, List.set_cons_succ, List.set_cons_zero]
      refine tree_one rfl rfl (fun K hK => ?_)
      have t0 := cell_of_blk BA 0; have t1 := cell_of_blk BA 1; have t2 := cell_of_blk BA 2; have t3 := cell_of_blk BA 3
      have u0 := free_of_blk BA 0; have u1 := free_of_blk BA 1; have u2 := free_of_blk BA 2; have u3 := free_of_blk BA 3
      go_simp
      try go_upon
      try go_simp
      obtain ⟨KS, FS⟩ := set4 BA (.int .i64 act) (.int .i64 rule) (.slice aF' F.length pF') (.slice aP' 0 pP')
      have SZ := FS.keep S0 (by simp; omega)
      refine hK _ _ SZ ?_
      clear t0 t1 t2 t3 u0 u1 u2 u3 S0
      have HKS := Lib.hid KS
      have FZ := Lib.hid (FW.out.step FS (fun i hi => by simp at hi; exact .inr (by omega)))
      have HFZ := Lib.hid (sl_of_row (row_fr HF3.out FS (fun g hg hm => by rw [List.mem_singleton] at hm; subst hm; exact row_box HF3.out BA (by decide) hg)))
      clear hK K
      try simp only [Act.put, List.setIfInBounds_toArray, List.set_cons_succ, List.set_cons_zero]
      refine tree_last rfl rfl (fun K hK => ?_)
      go_simp
      refine hK _ _ ?_
      clear hK K
      refine noPanic_normal ?_
      go_wp2_with fail
      go_meet
      case rel => exact ⟨_, aF', aP', pF', pP', rfl, rfl, Lib.hid ⟨HAA.out.1.trans FZ.out, ⟨FZ.out.keep HAA.out.2.1 (by simp), FZ.out.keep HAA.out.2.2 (by simp)⟩, HKS.out⟩, HFZ⟩
  case rest =>
    obtain ⟨g, aF', aP', pF', pP', rfl, rfl, HB, HF'⟩ := hcut
    have CC : Hid (∀ W, Fr [] wc W → (W.heap[w.heap.size]? = some (.cells #[.int .i64 ca, .int .i64 cd, .int .i64 at_, .int .i64 lv, .int .i64 fw, .bool bk] 68) ∧ W.heap[w.heap.size + 1]? = some (.cells #[.int .i64 act, .int .i64 rule, .slice af F.length pf, .slice none 0 0] 62)) ∧ W.heap[g]? = some (.cells #[.int .i64 act, .int .i64 rule, .slice aF' F.length pF', .slice aP' 0 pP'] 62)) := Lib.hid fun W hf => ⟨⟨hf.keep HB.out.2.1.1 (by simp), hf.keep HB.out.2.1.2 (by simp)⟩, hf.keep HB.out.2.2 (by simp)⟩
    have CL : Hid (∀ W, Fr [] wc W → Calls Tryz.prog 39 #[dnV act rule (.slice aF' F.length pF') (.slice aP' 0 pP'), dnV act rule (.slice af F.length pf) (.slice none 0 0)] W fun e w' => e = .returned (.bool true) ∧ Fr [] W w') := Lib.hid fun W hf => by
      have := like26_c act rule act rule (.slice aF' F.length pF') (.slice af F.length pf) F F aP' none 0 0 pP' 0 W (HF'.out.same hf) (HF.out.same (HB.out.1.trans hf))
      simpa using this
    have CK : Hid (∀ W (av : Addr) (ys : List RuV), Fr [] wc W → FlAt W (.slice (some av) 2 2) ys exF → _) := Lib.hid fun W av ys hf hv => checked26 HC.out HG.out HK.out (.slice (some av) 2 2) ys W hv af pf (HF.out.same (HB.out.1.trans hf)) hl
    go_wp2_with fail
    refine reg_mix (Fr [] wc) [0, 1, 2, 3, 4, 5, 6, 7, 9, 10, 11, 8, 12, 13, 14] (by kernel_rfl) (by kernel_rfl) (by kernel_rfl) rfl (Fr.drew _ _) ?_
    have FC : Fr [] wc wc.drew := Fr.drew _ _
    generalize wc.drew = WC at FC ⊢
    iterate 3 (refine mix_take1 (v := ?_) rfl rfl rfl rfl (fun w hS => ?_) ?_; rotate_left; (focus (have hS := CC.out _ hS; have s0 := cell_of_blk hS.1.1 0; have s1 := cell_of_blk hS.1.1 1; have s2 := cell_of_blk hS.1.1 2; have s3 := cell_of_blk hS.1.1 3; have s4 := cell_of_blk hS.1.1 4; have s5 := cell_of_blk hS.1.1 5; have t0 := cell_of_blk hS.1.2 0; have t1 := cell_of_blk hS.1.2 1; have t2 := cell_of_blk hS.1.2 2; have t3 := cell_of_blk hS.1.2 3; have v0 := cell_of_blk hS.2 0; have v1 := cell_of_blk hS.2 1; have v2 := cell_of_blk hS.2 2; have v3 := cell_of_blk hS.2 3; clear hS; go_simp; rfl)); simp only [List.setIfInBounds_toArray, List.set_cons_succ, List.set_cons_zero])
    iterate 2 (refine mix_takeg (v := ?_) rfl rfl rfl rfl rfl rfl (fun w hS => ?_) ?_; rotate_left; (focus (have hS := CC.out _ hS; have s0 := cell_of_blk hS.1.1 0; have s1 := cell_of_blk hS.1.1 1; have s2 := cell_of_blk hS.1.1 2; have s3 := cell_of_blk hS.1.1 3; have s4 := cell_of_blk hS.1.1 4; have s5 := cell_of_blk hS.1.1 5; have t0 := cell_of_blk hS.1.2 0; have t1 := cell_of_blk hS.1.2 1; have t2 := cell_of_blk hS.1.2 2; have t3 := cell_of_blk hS.1.2 3; have v0 := cell_of_blk hS.2 0; have v1 := cell_of_blk hS.2 1; have v2 := cell_of_blk hS.2 2; have v3 := cell_of_blk hS.2 3; clear hS; go_simp; rfl)); simp only [List.setIfInBounds_toArray, List.set_cons_succ, List.set_cons_zero])
    refine mix_dog rfl rfl rfl rfl rfl (fun K hK => ?_)
    go_simp
    refine (CL.out _ FC).mono ?_
    rintro e wq ⟨rfl, fq⟩
    have FC := FC.trans fq
    refine hK _ _ FC ?_
    clear hK K
    try simp only [Act.put, List.setIfInBounds_toArray, List.set_cons_succ, List.set_cons_zero]
    iterate 2 (refine mix_take1 (v := ?_) rfl rfl rfl rfl (fun w hS => ?_) ?_; rotate_left; (focus (have hS := CC.out _ hS; have s0 := cell_of_blk hS.1.1 0; have s1 := cell_of_blk hS.1.1 1; have s2 := cell_of_blk hS.1.1 2; have s3 := cell_of_blk hS.1.1 3; have s4 := cell_of_blk hS.1.1 4; have s5 := cell_of_blk hS.1.1 5; have t0 := cell_of_blk hS.1.2 0; have t1 := cell_of_blk hS.1.2 1; have t2 := cell_of_blk hS.1.2 2; have t3 := cell_of_blk hS.1.2 3; have v0 := cell_of_blk hS.2 0; have v1 := cell_of_blk hS.2 1; have v2 := cell_of_blk hS.2 2; have v3 := cell_of_blk hS.2 3; clear hS; go_simp; rfl)); simp only [List.setIfInBounds_toArray, List.set_cons_succ, List.set_cons_zero])
    iterate 3 (refine mix_takeg (v := ?_) rfl rfl rfl rfl rfl rfl (fun w hS => ?_) ?_; rotate_left; (focus (have hS := CC.out _ hS; have s0 := cell_of_blk hS.1.1 0; have s1 := cell_of_blk hS.1.1 1; have s2 := cell_of_blk hS.1.1 2; have s3 := cell_of_blk hS.1.1 3; have s4 := cell_of_blk hS.1.1 4; have s5 := cell_of_blk hS.1.1 5; have t0 := cell_of_blk hS.1.2 0; have t1 := cell_of_blk hS.1.2 1; have t2 := cell_of_blk hS.1.2 2; have t3 := cell_of_blk hS.1.2 3; have v0 := cell_of_blk hS.2 0; have v1 := cell_of_blk hS.2 1; have v2 := cell_of_blk hS.2 2; have v3 := cell_of_blk hS.2 3; clear hS; go_simp; rfl)); simp only [List.setIfInBounds_toArray, List.set_cons_succ, List.set_cons_zero])
    refine mix_dog rfl rfl rfl rfl rfl (fun K hK => ?_)
    go_simp
    refine (example26_c _).mono ?_
    rintro e wq ⟨fq, av, ys, rfl, hv⟩
    have FC := FC.trans fq
    have HV := Lib.hid hv
    clear hv
    refine hK _ _ FC ?_
    clear hK K
    try simp only [Act.put, List.setIfInBounds_toArray, List.set_cons_succ, List.set_cons_zero]
    refine mix_dog rfl rfl rfl rfl rfl (fun K hK => ?_)
    go_simp
    refine (CK.out _ _ _ FC HV.out).mono ?_
    rintro e wq ⟨rfl, fq⟩
    have FC := FC.trans fq
    refine hK _ _ FC ?_
    clear hK K
    try simp only [Act.put, List.setIfInBounds_toArray, List.set_cons_succ, List.set_cons_zero]
    iterate 2 (refine mix_take1 (v := ?_) rfl rfl rfl rfl (fun w hS => ?_) ?_; rotate_left; (focus (have hS := CC.out _ hS; have s0 := cell_of_blk hS.1.1 0; have s1 := cell_of_blk hS.1.1 1; have s2 := cell_of_blk hS.1.1 2; have s3 := cell_of_blk hS.1.1 3; have s4 := cell_of_blk hS.1.1 4; have s5 := cell_of_blk hS.1.1 5; have t0 := cell_of_blk hS.1.2 0; have t1 := cell_of_blk hS.1.2 1; have t2 := cell_of_blk hS.1.2 2; have t3 := cell_of_blk hS.1.2 3; have v0 := cell_of_blk hS.2 0; have v1 := cell_of_blk hS.2 1; have v2 := cell_of_blk hS.2 2; have v3 := cell_of_blk hS.2 3; clear hS; go_simp; rfl)); simp only [List.setIfInBounds_toArray, List.set_cons_succ, List.set_cons_zero])
    refine mix_end ?_
    go_wp2_with fail
    go_ret
    exact ⟨rfl, HB.out.1.trans FC⟩

end Go.Proofs.YtkopnooajikpmaaGreat
