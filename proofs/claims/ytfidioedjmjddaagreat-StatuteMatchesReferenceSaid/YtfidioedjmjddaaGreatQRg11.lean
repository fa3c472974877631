/-
  dialtoneref08: Bent.
-/
import Derived.Test.YtfidioedjmjddaaGreatQRg10
import Derived.Test.YtfidioedjmjddaaGreatQRg4
import Derived.Test.YtfidioedjmjddaaGreatQRg
namespace Go.Proofs.YtfidioedjmjddaaGreat
open Go.RowKit Go.Lib

theorem row_box {W : World} {e t : TypeId} {s n g : Nat} {v : Value} {xs : List Value} {cs : Array Value} {fz : Nat × Nat} (h : W.ownsRow 0 e s v n xs) (hb : W.heap[g]? = some (.cells cs t fz)) (hne : t ≠ e) (hv : v.ownBlock = some g) : False := by
  rcases h.2 with ⟨rfl, _⟩ | ⟨g', cap, cur, rfl, _, hg, _⟩
  · cases hv
  · simp [Value.ownBlock] at hv
    subst hv
    rw [hb] at hg
    injection hg with hg
    injection hg with _ h2
    exact hne h2

set_option maxRecDepth 1000000 in
set_option maxHeartbeats 4000000 in
theorem bent8_c {N : Nat} (vc vr vf : Value) (ys : List ClV) (c : Rb) (how n at_ : Int) (w : World) (h : RbOwn N w vc vr vf ys c) (hf : RbFew c) (ok : RbOk c) (i1 : I64 how) (i2 : I64 n) (i3 : I64 at_) :
    Calls Tryz.prog 6 #[.agg #[vc, vr, vf], .int .i64 how, .int .i64 n, .int .i64 at_] w fun e w' => Fr [] w w' ∧ ∃ oc or_ of_ zs d, e = .returned (rbV oc or_ of_) ∧ RbAt w' oc or_ of_ zs d := by
  obtain ⟨ac, pc, rfl⟩ := (sl_of_row h.cls).val
  obtain ⟨ar, pr, rfl⟩ := (sl_of_row h.rps).val
  obtain ⟨af, pf, rfl⟩ := (sl_of_row h.fas).val
  have hnc := hf.nc; have hnr := hf.nr; have hnf := hf.nf
  have f1 : Fr [] w ((w.alloc (.cells #[.slice ac ys.length pc, .slice ar c.rps.length pr, .slice af c.fas.length pf] 30)).alloc (.cells #[.slice none 0 0, .slice none 0 0, .slice none 0 0] 30)) := (Fr.alloc _ _ _).trans (Fr.alloc _ _ _)
  have CC := Lib.hid (copy_c _ _ _ ys c _ (h.same f1) hf)
  have HF1 := Lib.hid f1; have HK := Lib.hid ok; have HFW := Lib.hid hf
  have HZ : Hid (((w.alloc (.cells #[.slice ac ys.length pc, .slice ar c.rps.length pr, .slice af c.fas.length pf] 30)).alloc (.cells #[.slice none 0 0, .slice none 0 0, .slice none 0 0] 30)).heap[w.heap.size + 1]? = some (.cells #[.slice none 0 0, .slice none 0 0, .slice none 0 0] 30)) := Lib.hid (by have := heap_alloc_new (w.alloc (.cells #[.slice ac ys.length pc, .slice ar c.rps.length pr, .slice af c.fas.length pf] 30)) (.cells #[.slice none 0 0, .slice none 0 0, .slice none 0 0] 30); rwa [World.size_alloc] at this)
  have CP := Lib.hid fun W => pick8_c how 8 W i1 (by omega) (by omega)
  have bp := pickI_bound how 8 (by omega)
  generalize pickI how 8 = pk at *
  clear h hf ok f1 i1
  go_enter Tryz.func6, Tryz.ntmps6
  go_wp2_with fail
  refine CC.out.mono ?_
  rintro e w2 ⟨f2, oc, or_, of_, zs, rfl, ho, hnw⟩
  obtain ⟨ao, po, rfl⟩ := (sl_of_row ho.cls).val
  obtain ⟨aq, pq, rfl⟩ := (sl_of_row ho.rps).val
  obtain ⟨az, ps, rfl⟩ := (sl_of_row ho.fas).val
  have hzc : zs.length ≤ 100 := by have : c.cls.length = zs.length := by { rw [ho.eq, List.length_map] }; omega
  have HO := Lib.hid (ho.same (Fr.alloc [] w2 (.cells #[.slice ao zs.length po, .slice aq c.rps.length pq, .slice az c.fas.length ps] 30)))
  have HB9 := Lib.hid (heap_alloc_new w2 (.cells #[.slice ao zs.length po, .slice aq c.rps.length pq, .slice az c.fas.length ps] 30))
  have HB8 := Lib.hid ((f2.trans (Fr.alloc [] w2 (.cells #[.slice ao zs.length po, .slice aq c.rps.length pq, .slice az c.fas.length ps] 30))).keep HZ.out (by simp))
  have HF3 := Lib.hid (HF1.out.trans (f2.trans (Fr.alloc [] w2 (.cells #[.slice ao zs.length po, .slice aq c.rps.length pq, .slice az c.fas.length ps] 30))))
  have HNW : Hid (∀ g, (Value.slice ao zs.length po).ownBlock = some g ∨ (Value.slice aq c.rps.length pq).ownBlock = some g ∨ (Value.slice az c.fas.length ps).ownBlock = some g → w.heap.size + 1 < g) := Lib.hid fun g hg => by have := hnw g hg; simp at this; omega
  have HN8 : Hid ((Value.slice ao zs.length po).ownBlock ≠ some (w.heap.size + 1) ∧ (Value.slice aq c.rps.length pq).ownBlock ≠ some (w.heap.size + 1) ∧ (Value.slice az c.fas.length ps).ownBlock ≠ some (w.heap.size + 1)) := Lib.hid ⟨fun e => by have := HNW.out _ (.inl e); omega, fun e => by have := HNW.out _ (.inr (.inl e)); omega, fun e => by have := HNW.out _ (.inr (.inr e)); omega⟩
  have hs2 : w.heap.size + 1 < w2.heap.size := by have := f2.size; simp at this; omega
  clear f2 ho hnw CC HZ HF1
  go_wp2_with fail
  refine (CP.out _).mono ?_
  rintro e w00 ⟨rfl, rfl⟩
  generalize w2.alloc (.cells #[.slice ao zs.length po, .slice aq c.rps.length pq, .slice az c.fas.length ps] 30) = W3 at *
  have r0 := cell_of_blk HB9.out 0; have r1 := cell_of_blk HB9.out 1; have r2 := cell_of_blk HB9.out 2
  clear CP
  by_cases hA : pk < 5
  · by_cases hcl : 0 < zs.length
    · have hcc : decide ((0 : Int) < (zs.length : Int)) = true := decide_eq_true (by omega)
      have d5 : decide (pk < 5) = true := decide_eq_true (by omega)
      have e5 : (pk == 5) = false := beq_false_of_ne (by omega)
      have e6 : (pk == 6) = false := beq_false_of_ne (by omega)
      obtain ⟨g, cap, hv, _⟩ := HO.out.cls.form hcl
      cases hv
      have CI := Lib.hid fun W => pick8_c at_ zs.length W i3 (by omega) (by omega)
      have bk := pickI_bound at_ zs.length (by omega)
      generalize pickI at_ zs.length = kk at *
      obtain ⟨k, rfl⟩ := Int.eq_ofNat_of_zero_le bk.1
      have hk : k < zs.length := by omega
      go_wp2_with fail
      refine (CI.out _).mono ?_
      rintro e w00 ⟨rfl, rfl⟩
      obtain ⟨xb, xo, xcap, hv, hcl_⟩ := clRow_cells (sl_of_row HO.out.cls) k hk
      cases hv
      have x0 := hcl_ 0 _ rfl; have x1 := hcl_ 1 _ rfl; have x2 := hcl_ 2 _ rfl; have x3 := hcl_ 3 _ rfl; have x4 := hcl_ 4 _ rfl; have x5 := hcl_ 5 _ rfl
      simp only [Nat.add_zero, Nat.zero_add] at x0 x1 x2 x3 x4 x5
      have HYN := Lib.hid (HO.out.needs zs[k] (List.getElem_mem hk)); have HYB := Lib.hid (HO.out.bars zs[k] (List.getElem_mem hk))
      have hym : zs[k].x ∈ c.cls := by rw [HO.out.eq]; exact List.mem_map_of_mem (List.getElem_mem hk)
      have hyn := HFW.out.needs _ hym; have hyb := HFW.out.bars _ hym
      have HYK := Lib.hid (HK.out.cls _ hym)
      have HYT : Hid (∀ g', zs[k].vn.ownBlock = some g' ∨ zs[k].vb.ownBlock = some g' → g' ≠ g) := Lib.hid fun g' h5 h6 => by subst h6; exact (HO.out.term _ (List.getElem_mem hk) g' h5).2.2.1 rfl
      have hgl : g < W3.heap.size := ownsRow_lt HO.out.cls rfl
      generalize zs[k] = y at *
      obtain ⟨⟨xp, xf, xt, xn, xbb, xg⟩, vn, vb⟩ := y
      obtain ⟨an, pn, hvn⟩ := HYN.out.sl.val
      obtain ⟨ab, pb, hvb⟩ := HYB.out.sl.val
      simp only at hvn hvb x0 x1 x2 x3 x4 x5 hyn hyb HYK HYT
      subst hvn hvb
      simp only at HYN HYB HYT
      have CB := Lib.hid fun (W : World) (hf : Fr [] W3 W) => bentCl_c xp xf xt xg xn xbb _ _ pk n W (HYN.out.same hf) (HYB.out.same hf) (by omega) (by omega) ⟨by omega, by omega⟩
      clear hcl_ hym CI
      go_wp2_with fail
      refine reg_fin (Fr [] W3) 12 [0, 1, 2, 3, 4, 5, 6, 7, 8, 9, 10, 11, 12] (by kernel_rfl) (by kernel_rfl) (by kernel_rfl) rfl ?_
      have FC : Fr [] W3 W3.drew := Fr.drew _ _
      generalize W3.drew = WC at FC ⊢
      iterate 10 (refine fin_take (v := ?_) rfl rfl rfl rfl FC (fun w hS => ?_) ?_; rotate_left; (focus (have s0 := hS.cel r0 (by simp); have s1 := hS.cel r1 (by simp); have s2 := hS.cel r2 (by simp); have y0 := hS.cel x0 (by simp); have y1 := hS.cel x1 (by simp); have y2 := hS.cel x2 (by simp); have y3 := hS.cel x3 (by simp); have y4 := hS.cel x4 (by simp); have y5 := hS.cel x5 (by simp); clear hS; go_simp; rfl)); simp only [List.setIfInBounds_toArray, List.set_cons_succ, List.set_cons_zero])
      refine fin_do rfl rfl rfl (fun K hK => ?_)
      go_simp
      refine (CB.out _ FC).mono ?_
      rintro e w7 ⟨f7, y, rfl, hyn7, hyb7, hown7, hok7⟩
      have FC7 := FC.trans f7
      obtain ⟨a7, p7, hv7⟩ := hyn7.sl.val
      obtain ⟨b7, q7, hw7⟩ := hyb7.sl.val
      have hok8 := hok7 HYK.out i2
      have hg7 : ∀ g', y.vn.ownBlock = some g' ∨ y.vb.ownBlock = some g' → g' ≠ g := fun g' h5 h6 => by
        subst h6
        rcases hown7 g' h5 with h | h | h
        · exact HYT.out _ (.inl h) rfl
        · exact HYT.out _ (.inr h) rfl
        · have := FC.size; omega
      refine hK _ _ FC7 ?_
      clear hK K
      try simp only [Act.put, List.setIfInBounds_toArray, List.set_cons_succ, List.set_cons_zero]
      (refine fin_take (v := ?_) rfl rfl rfl rfl FC7 (fun w hS => ?_) ?_; rotate_left; (focus (have s0 := hS.cel r0 (by simp); clear hS; go_simp; rfl)); simp only [List.setIfInBounds_toArray, List.set_cons_succ, List.set_cons_zero])
      have HRW := row_fr HO.out.cls FC7 (by simp)
      have t0 := FC7.cel x0 (by simp); have t1 := FC7.cel x1 (by simp); have t2 := FC7.cel x2 (by simp); have t3 := FC7.cel x3 (by simp); have t4 := FC7.cel x4 (by simp); have t5 := FC7.cel x5 (by simp)
      have u0 := row_frzB HRW (k * 6); have u1 := row_frzB HRW (k * 6 + 1); have u2 := row_frzB HRW (k * 6 + 2); have u3 := row_frzB HRW (k * 6 + 3); have u4 := row_frzB HRW (k * 6 + 4); have u5 := row_frzB HRW (k * 6 + 5)
      have HAT := Lib.hid ((HO.out.same FC7).putCl hk HK.out hok8 hyn7 hyb7 hg7)
      have FS : Fr [g] W3 (clPut w7 g k y) := (FC7.mono (by simp)).trans (clPut_fr _ _ _ _)
      obtain ⟨⟨yp, yf, yt, yn, yb, yg⟩, yvn, yvb⟩ := y
      unfold clPut at HAT FS
      simp only at hv7 hw7 HAT FS
      subst hv7 hw7
      clear hyn7 hyb7 hown7 hok7 hok8 hg7 HRW f7
      refine fin_last (o := ⟨none, _, _, _, _, _⟩) rfl rfl rfl (fun K hK => ?_)
      go_simp
      try go_upon
      try go_simp
      refine hK _ _ ?_
      clear hK K
      have hgs := HNW.out g (.inl rfl)
      generalize (((((w7.setCell ⟨g, k * 6, none⟩ (.int .i64 yp)).setCell ⟨g, k * 6 + 1, none⟩ (.int .i64 yf)).setCell ⟨g, k * 6 + 2, none⟩ (.int .i64 yt)).setCell ⟨g, k * 6 + 3, none⟩ (.slice a7 yn.length p7)).setCell ⟨g, k * 6 + 4, none⟩ (.slice b7 yb.length q7)).setCell ⟨g, k * 6 + 5, none⟩ (.int .i64 yg) = W5 at *
      have h9 : w2.heap.size ∉ [g] := by
        intro hm; rw [List.mem_singleton] at hm
        have hb := HB9.out
        rw [hm] at hb
        exact row_box HO.out.cls hb (by decide) rfl
      have h8 : w.heap.size + 1 ∉ [g] := by simp; omega
      have hnew5 : ∀ i, i ∈ [g] → i ∈ ([] : List Nat) ∨ w.heap.size ≤ i := fun i hi => by rw [List.mem_singleton] at hi; subst hi; exact .inr (by omega)
      clear t0 t1 t2 t3 t4 t5 u0 u1 u2 u3 u4 u5 r0 r1 r2 x0 x1 x2 x3 x4 x5
      have HX9 : Hid (W5.heap[w2.heap.size]? = some (.cells #[.slice (some ⟨g, 0, none⟩) zs.length po, .slice aq c.rps.length pq, .slice az c.fas.length ps] 30)) := Lib.hid (FS.keep HB9.out h9)
      have HX8 : Hid (W5.heap[w.heap.size + 1]? = some (.cells #[.slice none 0 0, .slice none 0 0, .slice none 0 0] 30)) := Lib.hid (FS.keep HB8.out h8)
      have F5 := Lib.hid (HF3.out.step FS hnew5)
      have n1 := cell_of_blk HX9.out 0; have n2 := cell_of_blk HX9.out 1; have n3 := cell_of_blk HX9.out 2
      have m1 := cell_of_blk HX8.out 0; have m2 := cell_of_blk HX8.out 1; have m3 := cell_of_blk HX8.out 2
      have o1 := free_of_blk HX8.out 0; have o2 := free_of_blk HX8.out 1; have o3 := free_of_blk HX8.out 2
      clear FS h9 h8 hnew5
      go_wp2_with fail
      have q1 := heap_setCell_same (i := 0) (.slice (some ⟨g, 0, none⟩) zs.length po) HX8.out
      have q2 := heap_setCell_same (i := 1) (.slice aq c.rps.length pq) q1
      have q3 := heap_setCell_same (i := 2) (.slice az c.fas.length ps) q2
      simp only [List.setIfInBounds_toArray, List.set_cons_succ, List.set_cons_zero] at q3
      have FT : Fr [w.heap.size + 1] W5 _ := ((Fr.setCell W5 (p := ⟨w.heap.size + 1, 0, none⟩) (.slice (some ⟨g, 0, none⟩) zs.length po) (by simp)).trans (Fr.setCell _ (p := ⟨w.heap.size + 1, 1, none⟩) (.slice aq c.rps.length pq) (by simp))).trans (Fr.setCell _ (p := ⟨w.heap.size + 1, 2, none⟩) (.slice az c.fas.length ps) (by simp))
      generalize ((W5.setCell ⟨w.heap.size + 1, 0, none⟩ (.slice (some ⟨g, 0, none⟩) zs.length po)).setCell ⟨w.heap.size + 1, 1, none⟩ (.slice aq c.rps.length pq)).setCell ⟨w.heap.size + 1, 2, none⟩ (.slice az c.fas.length ps) = WF at *
      have k0 := cell_of_blk q3 0; have k1 := cell_of_blk q3 1; have k2 := cell_of_blk q3 2
      refine bodyPost_ret (by simp [results, Tryz.results6, go_sem, k0, k1, k2]; try rfl) rfl ?_
      refine ⟨F5.out.step FT (fun i hi => by simp at hi; exact .inr (by omega)), ?_⟩
      have HZ9 := HAT.out.box (HN8.out.1) (HN8.out.2.1) (HN8.out.2.2) HX8.out nil3 FT
      first | exact ⟨_, _, _, _, _, rfl, HZ9⟩ | exact ⟨_, _, _, rfl, _, _, HZ9⟩
    · have hcc : decide ((0 : Int) < (zs.length : Int)) = false := decide_eq_false (by omega)
      have d5 : decide (pk < 5) = true := decide_eq_true (by omega)
      have e5 : (pk == 5) = false := beq_false_of_ne (by omega)
      have e6 : (pk == 6) = false := beq_false_of_ne (by omega)
      by_cases hfl : 0 < c.fas.length
      · have hff : decide ((0 : Int) < (c.fas.length : Int)) = true := decide_eq_true (by omega)
        obtain ⟨g, cap, hv, _⟩ := HO.out.fas.form hfl
        cases hv
        have CI := Lib.hid fun W => pick8_c at_ c.fas.length W i3 (by omega) (by omega)
        have bk := pickI_bound at_ c.fas.length (by omega)
        generalize pickI at_ c.fas.length = kk at *
        obtain ⟨k, rfl⟩ := Int.eq_ofNat_of_zero_le bk.1
        have hk : k < c.fas.length := by omega
        go_wp2_with fail
        refine reg_fin (Fr [] W3) 10 [0, 1, 2, 3, 4, 5, 7, 6, 8, 9, 10] (by kernel_rfl) (by kernel_rfl) (by kernel_rfl) rfl ?_
        have FC : Fr [] W3 W3.drew := Fr.drew _ _
        generalize W3.drew = WC at FC ⊢
        iterate 7 (refine fin_take (v := ?_) rfl rfl rfl rfl FC (fun w hS => ?_) ?_; rotate_left; (focus (have s0 := hS.cel r0 (by simp); have s1 := hS.cel r1 (by simp); have s2 := hS.cel r2 (by simp); clear hS; go_simp; rfl)); simp only [List.setIfInBounds_toArray, List.set_cons_succ, List.set_cons_zero])
        refine fin_do rfl rfl rfl (fun K hK => ?_)
        go_simp
        refine (CI.out _).mono ?_
        rintro e w00 ⟨rfl, rfl⟩
        refine hK _ _ FC ?_
        clear hK K
        try simp only [Act.put, List.setIfInBounds_toArray, List.set_cons_succ, List.set_cons_zero]
        iterate 2 (refine fin_take (v := ?_) rfl rfl rfl rfl FC (fun w hS => ?_) ?_; rotate_left; (focus (have s0 := hS.cel r0 (by simp); have s1 := hS.cel r1 (by simp); have s2 := hS.cel r2 (by simp); clear hS; go_simp; rfl)); simp only [List.setIfInBounds_toArray, List.set_cons_succ, List.set_cons_zero])
        have t0 : ∃ u, WC.cell? ⟨g, k * 6 + 1, none⟩ = some u := by
          have h5 := row_fr HO.out.fas FC (by simp)
          obtain ⟨b, off, _, hv, hc⟩ := faRow_cells' (sl_of_row h5) k hk
          cases hv
          exact ⟨_, by have := hc 1 _ rfl; simpa using this⟩
        obtain ⟨u, t0⟩ := t0
        have t1 := row_frzB (row_fr HO.out.fas FC (by simp)) (k * 6 + 1)
        refine fin_last (o := ⟨none, _, _, _, _, _⟩) rfl rfl rfl (fun K hK => ?_)
        go_simp
        try go_upon
        try go_simp
        refine hK _ _ ?_
        clear hK K
        have FS : Fr [g] W3 _ := (FC.mono (by simp)).trans (Fr.setCell (fp := [g]) WC (p := ⟨g, k * 6 + 1, none⟩) (.int .i64 n) (by simp))
        have HAT := Lib.hid ((HO.out.same FC).putFa (j := 1) (x := { c.fas[k] with says := n }) hk HK.out (by omega) rfl (by have h7 := HK.out.fas _ (List.getElem_mem hk); exact ⟨h7.thing, i2, h7.f, h7.t, h7.kf, h7.kt⟩))
        generalize WC.setCell ⟨g, k * 6 + 1, none⟩ (.int .i64 n) = W5 at *
        have hgs := HNW.out g (.inr (.inr rfl))
        have h9 : w2.heap.size ∉ [g] := by
          intro hm; rw [List.mem_singleton] at hm
          have hb := HB9.out
          rw [hm] at hb
          exact row_box HO.out.fas hb (by decide) rfl
        have h8 : w.heap.size + 1 ∉ [g] := by simp; omega
        have hnew5 : ∀ i, i ∈ [g] → i ∈ ([] : List Nat) ∨ w.heap.size ≤ i := fun i hi => by rw [List.mem_singleton] at hi; subst hi; exact .inr (by omega)
        clear t0 t1 r0 r1 r2 CI
        have HX9 : Hid (W5.heap[w2.heap.size]? = some (.cells #[.slice ao zs.length po, .slice aq c.rps.length pq, .slice (some ⟨g, 0, none⟩) c.fas.length ps] 30)) := Lib.hid (FS.keep HB9.out h9)
        have HX8 : Hid (W5.heap[w.heap.size + 1]? = some (.cells #[.slice none 0 0, .slice none 0 0, .slice none 0 0] 30)) := Lib.hid (FS.keep HB8.out h8)
        have F5 := Lib.hid (HF3.out.step FS hnew5)
        have n1 := cell_of_blk HX9.out 0; have n2 := cell_of_blk HX9.out 1; have n3 := cell_of_blk HX9.out 2
        have m1 := cell_of_blk HX8.out 0; have m2 := cell_of_blk HX8.out 1; have m3 := cell_of_blk HX8.out 2
        have o1 := free_of_blk HX8.out 0; have o2 := free_of_blk HX8.out 1; have o3 := free_of_blk HX8.out 2
        clear FS h9 h8 hnew5
        go_wp2_with fail
        have q1 := heap_setCell_same (i := 0) (.slice ao zs.length po) HX8.out
        have q2 := heap_setCell_same (i := 1) (.slice aq c.rps.length pq) q1
        have q3 := heap_setCell_same (i := 2) (.slice (some ⟨g, 0, none⟩) c.fas.length ps) q2
        simp only [List.setIfInBounds_toArray, List.set_cons_succ, List.set_cons_zero] at q3
        have FT : Fr [w.heap.size + 1] W5 _ := ((Fr.setCell W5 (p := ⟨w.heap.size + 1, 0, none⟩) (.slice ao zs.length po) (by simp)).trans (Fr.setCell _ (p := ⟨w.heap.size + 1, 1, none⟩) (.slice aq c.rps.length pq) (by simp))).trans (Fr.setCell _ (p := ⟨w.heap.size + 1, 2, none⟩) (.slice (some ⟨g, 0, none⟩) c.fas.length ps) (by simp))
        generalize ((W5.setCell ⟨w.heap.size + 1, 0, none⟩ (.slice ao zs.length po)).setCell ⟨w.heap.size + 1, 1, none⟩ (.slice aq c.rps.length pq)).setCell ⟨w.heap.size + 1, 2, none⟩ (.slice (some ⟨g, 0, none⟩) c.fas.length ps) = WF at *
        have k0 := cell_of_blk q3 0; have k1 := cell_of_blk q3 1; have k2 := cell_of_blk q3 2
        refine bodyPost_ret (by simp [results, Tryz.results6, go_sem, k0, k1, k2]; try rfl) rfl ?_
        refine ⟨F5.out.step FT (fun i hi => by simp at hi; exact .inr (by omega)), ?_⟩
        have HZ9 := HAT.out.box (HN8.out.1) (HN8.out.2.1) (HN8.out.2.2) HX8.out nil3 FT
        first | exact ⟨_, _, _, _, _, rfl, HZ9⟩ | exact ⟨_, _, _, rfl, _, _, HZ9⟩
      · have hff : decide ((0 : Int) < (c.fas.length : Int)) = false := decide_eq_false (by omega)
        have HAT := Lib.hid (HO.out.at_ HK.out)
        obtain ⟨W5, hw5⟩ : ∃ W : World, W = W3 := ⟨_, rfl⟩
        have FS : Fr [] W3 W5 := by rw [hw5]; exact Fr.refl _ _
        rw [← hw5] at r0 r1 r2 HAT ⊢
        have h9 : w2.heap.size ∉ ([] : List Nat) := by simp
        have h8 : w.heap.size + 1 ∉ ([] : List Nat) := by simp
        have hnew5 : ∀ i, i ∈ ([] : List Nat) → i ∈ ([] : List Nat) ∨ w.heap.size ≤ i := fun i hi => by cases hi
        clear hw5
        have HX9 : Hid (W5.heap[w2.heap.size]? = some (.cells #[.slice ao zs.length po, .slice aq c.rps.length pq, .slice az c.fas.length ps] 30)) := Lib.hid (FS.keep HB9.out h9)
        have HX8 : Hid (W5.heap[w.heap.size + 1]? = some (.cells #[.slice none 0 0, .slice none 0 0, .slice none 0 0] 30)) := Lib.hid (FS.keep HB8.out h8)
        have F5 := Lib.hid (HF3.out.step FS hnew5)
        have n1 := cell_of_blk HX9.out 0; have n2 := cell_of_blk HX9.out 1; have n3 := cell_of_blk HX9.out 2
        have m1 := cell_of_blk HX8.out 0; have m2 := cell_of_blk HX8.out 1; have m3 := cell_of_blk HX8.out 2
        have o1 := free_of_blk HX8.out 0; have o2 := free_of_blk HX8.out 1; have o3 := free_of_blk HX8.out 2
        clear FS h9 h8 hnew5
        go_wp2_with fail
        have q1 := heap_setCell_same (i := 0) (.slice ao zs.length po) HX8.out
        have q2 := heap_setCell_same (i := 1) (.slice aq c.rps.length pq) q1
        have q3 := heap_setCell_same (i := 2) (.slice az c.fas.length ps) q2
        simp only [List.setIfInBounds_toArray, List.set_cons_succ, List.set_cons_zero] at q3
        have FT : Fr [w.heap.size + 1] W5 _ := ((Fr.setCell W5 (p := ⟨w.heap.size + 1, 0, none⟩) (.slice ao zs.length po) (by simp)).trans (Fr.setCell _ (p := ⟨w.heap.size + 1, 1, none⟩) (.slice aq c.rps.length pq) (by simp))).trans (Fr.setCell _ (p := ⟨w.heap.size + 1, 2, none⟩) (.slice az c.fas.length ps) (by simp))
        generalize ((W5.setCell ⟨w.heap.size + 1, 0, none⟩ (.slice ao zs.length po)).setCell ⟨w.heap.size + 1, 1, none⟩ (.slice aq c.rps.length pq)).setCell ⟨w.heap.size + 1, 2, none⟩ (.slice az c.fas.length ps) = WF at *
        have k0 := cell_of_blk q3 0; have k1 := cell_of_blk q3 1; have k2 := cell_of_blk q3 2
        refine bodyPost_ret (by simp [results, Tryz.results6, go_sem, k0, k1, k2]; try rfl) rfl ?_
        refine ⟨F5.out.step FT (fun i hi => by simp at hi; exact .inr (by omega)), ?_⟩
        have HZ9 := HAT.out.box (HN8.out.1) (HN8.out.2.1) (HN8.out.2.2) HX8.out nil3 FT
        first | exact ⟨_, _, _, _, _, rfl, HZ9⟩ | exact ⟨_, _, _, rfl, _, _, HZ9⟩
  · by_cases h5 : pk = 5
    · by_cases hrl : 0 < c.rps.length
      · have hrr : decide ((0 : Int) < (c.rps.length : Int)) = true := decide_eq_true (by omega)
        have d5 : decide (pk < 5) = false := decide_eq_false (by omega)
        have e5 : (pk == 5) = true := by simp; omega
        have e6 : (pk == 6) = false := beq_false_of_ne (by omega)
        obtain ⟨g, cap, hv, _⟩ := HO.out.rps.form hrl
        cases hv
        have CI := Lib.hid fun W => pick8_c at_ c.rps.length W i3 (by omega) (by omega)
        have bk := pickI_bound at_ c.rps.length (by omega)
        generalize pickI at_ c.rps.length = kk at *
        obtain ⟨k, rfl⟩ := Int.eq_ofNat_of_zero_le bk.1
        have hk : k < c.rps.length := by omega
        go_wp2_with fail
        refine reg_fin (Fr [] W3) 10 [0, 1, 2, 3, 4, 5, 7, 6, 8, 9, 10] (by kernel_rfl) (by kernel_rfl) (by kernel_rfl) rfl ?_
        have FC : Fr [] W3 W3.drew := Fr.drew _ _
        generalize W3.drew = WC at FC ⊢
        iterate 7 (refine fin_take (v := ?_) rfl rfl rfl rfl FC (fun w hS => ?_) ?_; rotate_left; (focus (have s0 := hS.cel r0 (by simp); have s1 := hS.cel r1 (by simp); have s2 := hS.cel r2 (by simp); clear hS; go_simp; rfl)); simp only [List.setIfInBounds_toArray, List.set_cons_succ, List.set_cons_zero])
        refine fin_do rfl rfl rfl (fun K hK => ?_)
        go_simp
        refine (CI.out _).mono ?_
        rintro e w00 ⟨rfl, rfl⟩
        refine hK _ _ FC ?_
        clear hK K
        try simp only [Act.put, List.setIfInBounds_toArray, List.set_cons_succ, List.set_cons_zero]
        iterate 2 (refine fin_take (v := ?_) rfl rfl rfl rfl FC (fun w hS => ?_) ?_; rotate_left; (focus (have s0 := hS.cel r0 (by simp); have s1 := hS.cel r1 (by simp); have s2 := hS.cel r2 (by simp); clear hS; go_simp; rfl)); simp only [List.setIfInBounds_toArray, List.set_cons_succ, List.set_cons_zero])
        have t0 : ∃ u, WC.cell? ⟨g, k * 3, none⟩ = some u := by
          have h5 := row_fr HO.out.rps FC (by simp)
          obtain ⟨b, off, _, hv, hc⟩ := rpRow_cells' (sl_of_row h5) k hk
          cases hv
          exact ⟨_, by have := hc 0 _ rfl; simpa using this⟩
        obtain ⟨u, t0⟩ := t0
        have t1 := row_frzB (row_fr HO.out.rps FC (by simp)) (k * 3)
        refine fin_last (o := ⟨none, _, _, _, _, _⟩) rfl rfl rfl (fun K hK => ?_)
        go_simp
        try go_upon
        try go_simp
        refine hK _ _ ?_
        clear hK K
        have FS : Fr [g] W3 _ := (FC.mono (by simp)).trans (Fr.setCell (fp := [g]) WC (p := ⟨g, k * 3, none⟩) (.int .i64 n) (by simp))
        have HAT := Lib.hid ((HO.out.same FC).putRp hk HK.out i2)
        generalize WC.setCell ⟨g, k * 3, none⟩ (.int .i64 n) = W5 at *
        have hgs := HNW.out g (.inr (.inl rfl))
        have h9 : w2.heap.size ∉ [g] := by
          intro hm; rw [List.mem_singleton] at hm
          have hb := HB9.out
          rw [hm] at hb
          exact row_box HO.out.rps hb (by decide) rfl
        have h8 : w.heap.size + 1 ∉ [g] := by simp; omega
        have hnew5 : ∀ i, i ∈ [g] → i ∈ ([] : List Nat) ∨ w.heap.size ≤ i := fun i hi => by rw [List.mem_singleton] at hi; subst hi; exact .inr (by omega)
        clear t0 t1 r0 r1 r2 CI
        have HX9 : Hid (W5.heap[w2.heap.size]? = some (.cells #[.slice ao zs.length po, .slice (some ⟨g, 0, none⟩) c.rps.length pq, .slice az c.fas.length ps] 30)) := Lib.hid (FS.keep HB9.out h9)
        have HX8 : Hid (W5.heap[w.heap.size + 1]? = some (.cells #[.slice none 0 0, .slice none 0 0, .slice none 0 0] 30)) := Lib.hid (FS.keep HB8.out h8)
        have F5 := Lib.hid (HF3.out.step FS hnew5)
        have n1 := cell_of_blk HX9.out 0; have n2 := cell_of_blk HX9.out 1; have n3 := cell_of_blk HX9.out 2
        have m1 := cell_of_blk HX8.out 0; have m2 := cell_of_blk HX8.out 1; have m3 := cell_of_blk HX8.out 2
        have o1 := free_of_blk HX8.out 0; have o2 := free_of_blk HX8.out 1; have o3 := free_of_blk HX8.out 2
        clear FS h9 h8 hnew5
        go_wp2_with fail
        have q1 := heap_setCell_same (i := 0) (.slice ao zs.length po) HX8.out
        have q2 := heap_setCell_same (i := 1) (.slice (some ⟨g, 0, none⟩) c.rps.length pq) q1
        have q3 := heap_setCell_same (i := 2) (.slice az c.fas.length ps) q2
        simp only [List.setIfInBounds_toArray, List.set_cons_succ, List.set_cons_zero] at q3
        have FT : Fr [w.heap.size + 1] W5 _ := ((Fr.setCell W5 (p := ⟨w.heap.size + 1, 0, none⟩) (.slice ao zs.length po) (by simp)).trans (Fr.setCell _ (p := ⟨w.heap.size + 1, 1, none⟩) (.slice (some ⟨g, 0, none⟩) c.rps.length pq) (by simp))).trans (Fr.setCell _ (p := ⟨w.heap.size + 1, 2, none⟩) (.slice az c.fas.length ps) (by simp))
        generalize ((W5.setCell ⟨w.heap.size + 1, 0, none⟩ (.slice ao zs.length po)).setCell ⟨w.heap.size + 1, 1, none⟩ (.slice (some ⟨g, 0, none⟩) c.rps.length pq)).setCell ⟨w.heap.size + 1, 2, none⟩ (.slice az c.fas.length ps) = WF at *
        have k0 := cell_of_blk q3 0; have k1 := cell_of_blk q3 1; have k2 := cell_of_blk q3 2
        refine bodyPost_ret (by simp [results, Tryz.results6, go_sem, k0, k1, k2]; try rfl) rfl ?_
        refine ⟨F5.out.step FT (fun i hi => by simp at hi; exact .inr (by omega)), ?_⟩
        have HZ9 := HAT.out.box (HN8.out.1) (HN8.out.2.1) (HN8.out.2.2) HX8.out nil3 FT
        first | exact ⟨_, _, _, _, _, rfl, HZ9⟩ | exact ⟨_, _, _, rfl, _, _, HZ9⟩
      · have hrr : decide ((0 : Int) < (c.rps.length : Int)) = false := decide_eq_false (by omega)
        have d5 : decide (pk < 5) = false := decide_eq_false (by omega)
        have e5 : (pk == 5) = true := by simp; omega
        have e6 : (pk == 6) = false := beq_false_of_ne (by omega)
        by_cases hfl : 0 < c.fas.length
        · have hff : decide ((0 : Int) < (c.fas.length : Int)) = true := decide_eq_true (by omega)
          obtain ⟨g, cap, hv, _⟩ := HO.out.fas.form hfl
          cases hv
          have CI := Lib.hid fun W => pick8_c at_ c.fas.length W i3 (by omega) (by omega)
          have bk := pickI_bound at_ c.fas.length (by omega)
          generalize pickI at_ c.fas.length = kk at *
          obtain ⟨k, rfl⟩ := Int.eq_ofNat_of_zero_le bk.1
          have hk : k < c.fas.length := by omega
          go_wp2_with fail
          refine reg_fin (Fr [] W3) 10 [0, 1, 2, 3, 4, 5, 7, 6, 8, 9, 10] (by kernel_rfl) (by kernel_rfl) (by kernel_rfl) rfl ?_
          have FC : Fr [] W3 W3.drew := Fr.drew _ _
          generalize W3.drew = WC at FC ⊢
          iterate 7 (refine fin_take (v := ?_) rfl rfl rfl rfl FC (fun w hS => ?_) ?_; rotate_left; (focus (have s0 := hS.cel r0 (by simp); have s1 := hS.cel r1 (by simp); have s2 := hS.cel r2 (by simp); clear hS; go_simp; rfl)); simp only [List.setIfInBounds_toArray, List.set_cons_succ, List.set_cons_zero])
          refine fin_do rfl rfl rfl (fun K hK => ?_)
          go_simp
          refine (CI.out _).mono ?_
          rintro e w00 ⟨rfl, rfl⟩
          refine hK _ _ FC ?_
          clear hK K
          try simp only [Act.put, List.setIfInBounds_toArray, List.set_cons_succ, List.set_cons_zero]
          iterate 2 (refine fin_take (v := ?_) rfl rfl rfl rfl FC (fun w hS => ?_) ?_; rotate_left; (focus (have s0 := hS.cel r0 (by simp); have s1 := hS.cel r1 (by simp); have s2 := hS.cel r2 (by simp); clear hS; go_simp; rfl)); simp only [List.setIfInBounds_toArray, List.set_cons_succ, List.set_cons_zero])
          have t0 : ∃ u, WC.cell? ⟨g, k * 6 + 1, none⟩ = some u := by
            have h5 := row_fr HO.out.fas FC (by simp)
            obtain ⟨b, off, _, hv, hc⟩ := faRow_cells' (sl_of_row h5) k hk
            cases hv
            exact ⟨_, by have := hc 1 _ rfl; simpa using this⟩
          obtain ⟨u, t0⟩ := t0
          have t1 := row_frzB (row_fr HO.out.fas FC (by simp)) (k * 6 + 1)
          refine fin_last (o := ⟨none, _, _, _, _, _⟩) rfl rfl rfl (fun K hK => ?_)
          go_simp
          try go_upon
          try go_simp
          refine hK _ _ ?_
          clear hK K
          have FS : Fr [g] W3 _ := (FC.mono (by simp)).trans (Fr.setCell (fp := [g]) WC (p := ⟨g, k * 6 + 1, none⟩) (.int .i64 n) (by simp))
          have HAT := Lib.hid ((HO.out.same FC).putFa (j := 1) (x := { c.fas[k] with says := n }) hk HK.out (by omega) rfl (by have h7 := HK.out.fas _ (List.getElem_mem hk); exact ⟨h7.thing, i2, h7.f, h7.t, h7.kf, h7.kt⟩))
          generalize WC.setCell ⟨g, k * 6 + 1, none⟩ (.int .i64 n) = W5 at *
          have hgs := HNW.out g (.inr (.inr rfl))
          have h9 : w2.heap.size ∉ [g] := by
            intro hm; rw [List.mem_singleton] at hm
            have hb := HB9.out
            rw [hm] at hb
            exact row_box HO.out.fas hb (by decide) rfl
          have h8 : w.heap.size + 1 ∉ [g] := by simp; omega
          have hnew5 : ∀ i, i ∈ [g] → i ∈ ([] : List Nat) ∨ w.heap.size ≤ i := fun i hi => by rw [List.mem_singleton] at hi; subst hi; exact .inr (by omega)
          clear t0 t1 r0 r1 r2 CI
          have HX9 : Hid (W5.heap[w2.heap.size]? = some (.cells #[.slice ao zs.length po, .slice aq c.rps.length pq, .slice (some ⟨g, 0, none⟩) c.fas.length ps] 30)) := Lib.hid (FS.keep HB9.out h9)
          have HX8 : Hid (W5.heap[w.heap.size + 1]? = some (.cells #[.slice none 0 0, .slice none 0 0, .slice none 0 0] 30)) := Lib.hid (FS.keep HB8.out h8)
          have F5 := Lib.hid (HF3.out.step FS hnew5)
          have n1 := cell_of_blk HX9.out 0; have n2 := cell_of_blk HX9.out 1; have n3 := cell_of_blk HX9.out 2
          have m1 := cell_of_blk HX8.out 0; have m2 := cell_of_blk HX8.out 1; have m3 := cell_of_blk HX8.out 2
          have o1 := free_of_blk HX8.out 0; have o2 := free_of_blk HX8.out 1; have o3 := free_of_blk HX8.out 2
          clear FS h9 h8 hnew5
          go_wp2_with fail
          have q1 := heap_setCell_same (i := 0) (.slice ao zs.length po) HX8.out
          have q2 := heap_setCell_same (i := 1) (.slice aq c.rps.length pq) q1
          have q3 := heap_setCell_same (i := 2) (.slice (some ⟨g, 0, none⟩) c.fas.length ps) q2
          simp only [List.setIfInBounds_toArray, List.set_cons_succ, List.set_cons_zero] at q3
          have FT : Fr [w.heap.size + 1] W5 _ := ((Fr.setCell W5 (p := ⟨w.heap.size + 1, 0, none⟩) (.slice ao zs.length po) (by simp)).trans (Fr.setCell _ (p := ⟨w.heap.size + 1, 1, none⟩) (.slice aq c.rps.length pq) (by simp))).trans (Fr.setCell _ (p := ⟨w.heap.size + 1, 2, none⟩) (.slice (some ⟨g, 0, none⟩) c.fas.length ps) (by simp))
          generalize ((W5.setCell ⟨w.heap.size + 1, 0, none⟩ (.slice ao zs.length po)).setCell ⟨w.heap.size + 1, 1, none⟩ (.slice aq c.rps.length pq)).setCell ⟨w.heap.size + 1, 2, none⟩ (.slice (some ⟨g, 0, none⟩) c.fas.length ps) = WF at *
          have k0 := cell_of_blk q3 0; have k1 := cell_of_blk q3 1; have k2 := cell_of_blk q3 2
          refine bodyPost_ret (by simp [results, Tryz.results6, go_sem, k0, k1, k2]; try rfl) rfl ?_
          refine ⟨F5.out.step FT (fun i hi => by simp at hi; exact .inr (by omega)), ?_⟩
          have HZ9 := HAT.out.box (HN8.out.1) (HN8.out.2.1) (HN8.out.2.2) HX8.out nil3 FT
          first | exact ⟨_, _, _, _, _, rfl, HZ9⟩ | exact ⟨_, _, _, rfl, _, _, HZ9⟩
        · have hff : decide ((0 : Int) < (c.fas.length : Int)) = false := decide_eq_false (by omega)
          have HAT := Lib.hid (HO.out.at_ HK.out)
          obtain ⟨W5, hw5⟩ : ∃ W : World, W = W3 := ⟨_, rfl⟩
          have FS : Fr [] W3 W5 := by rw [hw5]; exact Fr.refl _ _
          rw [← hw5] at r0 r1 r2 HAT ⊢
          have h9 : w2.heap.size ∉ ([] : List Nat) := by simp
          have h8 : w.heap.size + 1 ∉ ([] : List Nat) := by simp
          have hnew5 : ∀ i, i ∈ ([] : List Nat) → i ∈ ([] : List Nat) ∨ w.heap.size ≤ i := fun i hi => by cases hi
          clear hw5
          have HX9 : Hid (W5.heap[w2.heap.size]? = some (.cells #[.slice ao zs.length po, .slice aq c.rps.length pq, .slice az c.fas.length ps] 30)) := Lib.hid (FS.keep HB9.out h9)
          have HX8 : Hid (W5.heap[w.heap.size + 1]? = some (.cells #[.slice none 0 0, .slice none 0 0, .slice none 0 0] 30)) := Lib.hid (FS.keep HB8.out h8)
          have F5 := Lib.hid (HF3.out.step FS hnew5)
          have n1 := cell_of_blk HX9.out 0; have n2 := cell_of_blk HX9.out 1; have n3 := cell_of_blk HX9.out 2
          have m1 := cell_of_blk HX8.out 0; have m2 := cell_of_blk HX8.out 1; have m3 := cell_of_blk HX8.out 2
          have o1 := free_of_blk HX8.out 0; have o2 := free_of_blk HX8.out 1; have o3 := free_of_blk HX8.out 2
          clear FS h9 h8 hnew5
          go_wp2_with fail
          have q1 := heap_setCell_same (i := 0) (.slice ao zs.length po) HX8.out
          have q2 := heap_setCell_same (i := 1) (.slice aq c.rps.length pq) q1
          have q3 := heap_setCell_same (i := 2) (.slice az c.fas.length ps) q2
          simp only [List.setIfInBounds_toArray, List.set_cons_succ, List.set_cons_zero] at q3
          have FT : Fr [w.heap.size + 1] W5 _ := ((Fr.setCell W5 (p := ⟨w.heap.size + 1, 0, none⟩) (.slice ao zs.length po) (by simp)).trans (Fr.setCell _ (p := ⟨w.heap.size + 1, 1, none⟩) (.slice aq c.rps.length pq) (by simp))).trans (Fr.setCell _ (p := ⟨w.heap.size + 1, 2, none⟩) (.slice az c.fas.length ps) (by simp))
          generalize ((W5.setCell ⟨w.heap.size + 1, 0, none⟩ (.slice ao zs.length po)).setCell ⟨w.heap.size + 1, 1, none⟩ (.slice aq c.rps.length pq)).setCell ⟨w.heap.size + 1, 2, none⟩ (.slice az c.fas.length ps) = WF at *
          have k0 := cell_of_blk q3 0; have k1 := cell_of_blk q3 1; have k2 := cell_of_blk q3 2
          refine bodyPost_ret (by simp [results, Tryz.results6, go_sem, k0, k1, k2]; try rfl) rfl ?_
          refine ⟨F5.out.step FT (fun i hi => by simp at hi; exact .inr (by omega)), ?_⟩
          have HZ9 := HAT.out.box (HN8.out.1) (HN8.out.2.1) (HN8.out.2.2) HX8.out nil3 FT
          first | exact ⟨_, _, _, _, _, rfl, HZ9⟩ | exact ⟨_, _, _, rfl, _, _, HZ9⟩
    · by_cases h6 : pk = 6
      · by_cases hfl : 0 < c.fas.length
        · have hff : decide ((0 : Int) < (c.fas.length : Int)) = true := decide_eq_true (by omega)
          have d5 : decide (pk < 5) = false := decide_eq_false (by omega)
          have e5 : (pk == 5) = false := beq_false_of_ne (by omega)
          have e6 : (pk == 6) = true := by simp; omega
          obtain ⟨g, cap, hv, _⟩ := HO.out.fas.form hfl
          cases hv
          have CI := Lib.hid fun W => pick8_c at_ c.fas.length W i3 (by omega) (by omega)
          have bk := pickI_bound at_ c.fas.length (by omega)
          generalize pickI at_ c.fas.length = kk at *
          obtain ⟨k, rfl⟩ := Int.eq_ofNat_of_zero_le bk.1
          have hk : k < c.fas.length := by omega
          go_wp2_with fail
          refine reg_fin (Fr [] W3) 11 [0, 1, 2, 3, 4, 5, 7, 6, 8, 9, 10, 11] (by kernel_rfl) (by kernel_rfl) (by kernel_rfl) rfl ?_
          have FC : Fr [] W3 W3.drew := Fr.drew _ _
          generalize W3.drew = WC at FC ⊢
          iterate 7 (refine fin_take (v := ?_) rfl rfl rfl rfl FC (fun w hS => ?_) ?_; rotate_left; (focus (have s0 := hS.cel r0 (by simp); have s1 := hS.cel r1 (by simp); have s2 := hS.cel r2 (by simp); clear hS; go_simp; rfl)); simp only [List.setIfInBounds_toArray, List.set_cons_succ, List.set_cons_zero])
          refine fin_do rfl rfl rfl (fun K hK => ?_)
          go_simp
          refine (CI.out _).mono ?_
          rintro e w00 ⟨rfl, rfl⟩
          refine hK _ _ FC ?_
          clear hK K
          try simp only [Act.put, List.setIfInBounds_toArray, List.set_cons_succ, List.set_cons_zero]
          iterate 3 (refine fin_take (v := ?_) rfl rfl rfl rfl FC (fun w hS => ?_) ?_; rotate_left; (focus (have s0 := hS.cel r0 (by simp); have s1 := hS.cel r1 (by simp); have s2 := hS.cel r2 (by simp); clear hS; go_simp; rfl)); simp only [List.setIfInBounds_toArray, List.set_cons_succ, List.set_cons_zero])
          have t0 : ∃ u, WC.cell? ⟨g, k * 6 + 5, none⟩ = some u := by
            have h5 := row_fr HO.out.fas FC (by simp)
            obtain ⟨b, off, _, hv, hc⟩ := faRow_cells' (sl_of_row h5) k hk
            cases hv
            exact ⟨_, by have := hc 5 _ rfl; simpa using this⟩
          obtain ⟨u, t0⟩ := t0
          have t1 := row_frzB (row_fr HO.out.fas FC (by simp)) (k * 6 + 5)
          refine fin_last (o := ⟨none, _, _, _, _, _⟩) rfl rfl rfl (fun K hK => ?_)
          go_simp
          try go_upon
          try go_simp
          refine hK _ _ ?_
          clear hK K
          have FS : Fr [g] W3 _ := (FC.mono (by simp)).trans (Fr.setCell (fp := [g]) WC (p := ⟨g, k * 6 + 5, none⟩) (.int .i64 n) (by simp))
          have HAT := Lib.hid ((HO.out.same FC).putFa (j := 5) (x := { c.fas[k] with kt := n }) hk HK.out (by omega) rfl (by have h7 := HK.out.fas _ (List.getElem_mem hk); exact ⟨h7.thing, h7.says, h7.f, h7.t, h7.kf, i2⟩))
          generalize WC.setCell ⟨g, k * 6 + 5, none⟩ (.int .i64 n) = W5 at *
          have hgs := HNW.out g (.inr (.inr rfl))
          have h9 : w2.heap.size ∉ [g] := by
            intro hm; rw [List.mem_singleton] at hm
            have hb := HB9.out
            rw [hm] at hb
            exact row_box HO.out.fas hb (by decide) rfl
          have h8 : w.heap.size + 1 ∉ [g] := by simp; omega
          have hnew5 : ∀ i, i ∈ [g] → i ∈ ([] : List Nat) ∨ w.heap.size ≤ i := fun i hi => by rw [List.mem_singleton] at hi; subst hi; exact .inr (by omega)
          clear t0 t1 r0 r1 r2 CI
          have HX9 : Hid (W5.heap[w2.heap.size]? = some (.cells #[.slice ao zs.length po, .slice aq c.rps.length pq, .slice (some ⟨g, 0, none⟩) c.fas.length ps] 30)) := Lib.hid (FS.keep HB9.out h9)
          have HX8 : Hid (W5.heap[w.heap.size + 1]? = some (.cells #[.slice none 0 0, .slice none 0 0, .slice none 0 0] 30)) := Lib.hid (FS.keep HB8.out h8)
          have F5 := Lib.hid (HF3.out.step FS hnew5)
          have n1 := cell_of_blk HX9.out 0; have n2 := cell_of_blk HX9.out 1; have n3 := cell_of_blk HX9.out 2
          have m1 := cell_of_blk HX8.out 0; have m2 := cell_of_blk HX8.out 1; have m3 := cell_of_blk HX8.out 2
          have o1 := free_of_blk HX8.out 0; have o2 := free_of_blk HX8.out 1; have o3 := free_of_blk HX8.out 2
          clear FS h9 h8 hnew5
          go_wp2_with fail
          have q1 := heap_setCell_same (i := 0) (.slice ao zs.length po) HX8.out
          have q2 := heap_setCell_same (i := 1) (.slice aq c.rps.length pq) q1
          have q3 := heap_setCell_same (i := 2) (.slice (some ⟨g, 0, none⟩) c.fas.length ps) q2
          simp only [List.setIfInBounds_toArray, List.set_cons_succ, List.set_cons_zero] at q3
          have FT : Fr [w.heap.size + 1] W5 _ := ((Fr.setCell W5 (p := ⟨w.heap.size + 1, 0, none⟩) (.slice ao zs.length po) (by simp)).trans (Fr.setCell _ (p := ⟨w.heap.size + 1, 1, none⟩) (.slice aq c.rps.length pq) (by simp))).trans (Fr.setCell _ (p := ⟨w.heap.size + 1, 2, none⟩) (.slice (some ⟨g, 0, none⟩) c.fas.length ps) (by simp))
          generalize ((W5.setCell ⟨w.heap.size + 1, 0, none⟩ (.slice ao zs.length po)).setCell ⟨w.heap.size + 1, 1, none⟩ (.slice aq c.rps.length pq)).setCell ⟨w.heap.size + 1, 2, none⟩ (.slice (some ⟨g, 0, none⟩) c.fas.length ps) = WF at *
          have k0 := cell_of_blk q3 0; have k1 := cell_of_blk q3 1; have k2 := cell_of_blk q3 2
          refine bodyPost_ret (by simp [results, Tryz.results6, go_sem, k0, k1, k2]; try rfl) rfl ?_
          refine ⟨F5.out.step FT (fun i hi => by simp at hi; exact .inr (by omega)), ?_⟩
          have HZ9 := HAT.out.box (HN8.out.1) (HN8.out.2.1) (HN8.out.2.2) HX8.out nil3 FT
          first | exact ⟨_, _, _, _, _, rfl, HZ9⟩ | exact ⟨_, _, _, rfl, _, _, HZ9⟩
        · have hff : decide ((0 : Int) < (c.fas.length : Int)) = false := decide_eq_false (by omega)
          have d5 : decide (pk < 5) = false := decide_eq_false (by omega)
          have e5 : (pk == 5) = false := beq_false_of_ne (by omega)
          have e6 : (pk == 6) = true := by simp; omega
          have HAT := Lib.hid (HO.out.at_ HK.out)
          obtain ⟨W5, hw5⟩ : ∃ W : World, W = W3 := ⟨_, rfl⟩
          have FS : Fr [] W3 W5 := by rw [hw5]; exact Fr.refl _ _
          rw [← hw5] at r0 r1 r2 HAT ⊢
          have h9 : w2.heap.size ∉ ([] : List Nat) := by simp
          have h8 : w.heap.size + 1 ∉ ([] : List Nat) := by simp
          have hnew5 : ∀ i, i ∈ ([] : List Nat) → i ∈ ([] : List Nat) ∨ w.heap.size ≤ i := fun i hi => by cases hi
          clear hw5
          have HX9 : Hid (W5.heap[w2.heap.size]? = some (.cells #[.slice ao zs.length po, .slice aq c.rps.length pq, .slice az c.fas.length ps] 30)) := Lib.hid (FS.keep HB9.out h9)
          have HX8 : Hid (W5.heap[w.heap.size + 1]? = some (.cells #[.slice none 0 0, .slice none 0 0, .slice none 0 0] 30)) := Lib.hid (FS.keep HB8.out h8)
          have F5 := Lib.hid (HF3.out.step FS hnew5)
          have n1 := cell_of_blk HX9.out 0; have n2 := cell_of_blk HX9.out 1; have n3 := cell_of_blk HX9.out 2
          have m1 := cell_of_blk HX8.out 0; have m2 := cell_of_blk HX8.out 1; have m3 := cell_of_blk HX8.out 2
          have o1 := free_of_blk HX8.out 0; have o2 := free_of_blk HX8.out 1; have o3 := free_of_blk HX8.out 2
          clear FS h9 h8 hnew5
          go_wp2_with fail
          have q1 := heap_setCell_same (i := 0) (.slice ao zs.length po) HX8.out
          have q2 := heap_setCell_same (i := 1) (.slice aq c.rps.length pq) q1
          have q3 := heap_setCell_same (i := 2) (.slice az c.fas.length ps) q2
          simp only [List.setIfInBounds_toArray, List.set_cons_succ, List.set_cons_zero] at q3
          have FT : Fr [w.heap.size + 1] W5 _ := ((Fr.setCell W5 (p := ⟨w.heap.size + 1, 0, none⟩) (.slice ao zs.length po) (by simp)).trans (Fr.setCell _ (p := ⟨w.heap.size + 1, 1, none⟩) (.slice aq c.rps.length pq) (by simp))).trans (Fr.setCell _ (p := ⟨w.heap.size + 1, 2, none⟩) (.slice az c.fas.length ps) (by simp))
          generalize ((W5.setCell ⟨w.heap.size + 1, 0, none⟩ (.slice ao zs.length po)).setCell ⟨w.heap.size + 1, 1, none⟩ (.slice aq c.rps.length pq)).setCell ⟨w.heap.size + 1, 2, none⟩ (.slice az c.fas.length ps) = WF at *
          have k0 := cell_of_blk q3 0; have k1 := cell_of_blk q3 1; have k2 := cell_of_blk q3 2
          refine bodyPost_ret (by simp [results, Tryz.results6, go_sem, k0, k1, k2]; try rfl) rfl ?_
          refine ⟨F5.out.step FT (fun i hi => by simp at hi; exact .inr (by omega)), ?_⟩
          have HZ9 := HAT.out.box (HN8.out.1) (HN8.out.2.1) (HN8.out.2.2) HX8.out nil3 FT
          first | exact ⟨_, _, _, _, _, rfl, HZ9⟩ | exact ⟨_, _, _, rfl, _, _, HZ9⟩
      · skip
        have d5 : decide (pk < 5) = false := decide_eq_false (by omega)
        have e5 : (pk == 5) = false := beq_false_of_ne (by omega)
        have e6 : (pk == 6) = false := beq_false_of_ne (by omega)
        by_cases hfl : 0 < c.fas.length
        · have hff : decide ((0 : Int) < (c.fas.length : Int)) = true := decide_eq_true (by omega)
          obtain ⟨g, cap, hv, _⟩ := HO.out.fas.form hfl
          cases hv
          have CI := Lib.hid fun W => pick8_c at_ c.fas.length W i3 (by omega) (by omega)
          have bk := pickI_bound at_ c.fas.length (by omega)
          generalize pickI at_ c.fas.length = kk at *
          obtain ⟨k, rfl⟩ := Int.eq_ofNat_of_zero_le bk.1
          have hk : k < c.fas.length := by omega
          go_wp2_with fail
          refine reg_fin (Fr [] W3) 10 [0, 1, 2, 3, 4, 5, 7, 6, 8, 9, 10] (by kernel_rfl) (by kernel_rfl) (by kernel_rfl) rfl ?_
          have FC : Fr [] W3 W3.drew := Fr.drew _ _
          generalize W3.drew = WC at FC ⊢
          iterate 7 (refine fin_take (v := ?_) rfl rfl rfl rfl FC (fun w hS => ?_) ?_; rotate_left; (focus (have s0 := hS.cel r0 (by simp); have s1 := hS.cel r1 (by simp); have s2 := hS.cel r2 (by simp); clear hS; go_simp; rfl)); simp only [List.setIfInBounds_toArray, List.set_cons_succ, List.set_cons_zero])
          refine fin_do rfl rfl rfl (fun K hK => ?_)
          go_simp
          refine (CI.out _).mono ?_
          rintro e w00 ⟨rfl, rfl⟩
          refine hK _ _ FC ?_
          clear hK K
          try simp only [Act.put, List.setIfInBounds_toArray, List.set_cons_succ, List.set_cons_zero]
          iterate 2 (refine fin_take (v := ?_) rfl rfl rfl rfl FC (fun w hS => ?_) ?_; rotate_left; (focus (have s0 := hS.cel r0 (by simp); have s1 := hS.cel r1 (by simp); have s2 := hS.cel r2 (by simp); clear hS; go_simp; rfl)); simp only [List.setIfInBounds_toArray, List.set_cons_succ, List.set_cons_zero])
          have t0 : ∃ u, WC.cell? ⟨g, k * 6 + 1, none⟩ = some u := by
            have h5 := row_fr HO.out.fas FC (by simp)
            obtain ⟨b, off, _, hv, hc⟩ := faRow_cells' (sl_of_row h5) k hk
            cases hv
            exact ⟨_, by have := hc 1 _ rfl; simpa using this⟩
          obtain ⟨u, t0⟩ := t0
          have t1 := row_frzB (row_fr HO.out.fas FC (by simp)) (k * 6 + 1)
          refine fin_last (o := ⟨none, _, _, _, _, _⟩) rfl rfl rfl (fun K hK => ?_)
          go_simp
          try go_upon
          try go_simp
          refine hK _ _ ?_
          clear hK K
          have FS : Fr [g] W3 _ := (FC.mono (by simp)).trans (Fr.setCell (fp := [g]) WC (p := ⟨g, k * 6 + 1, none⟩) (.int .i64 n) (by simp))
          have HAT := Lib.hid ((HO.out.same FC).putFa (j := 1) (x := { c.fas[k] with says := n }) hk HK.out (by omega) rfl (by have h7 := HK.out.fas _ (List.getElem_mem hk); exact ⟨h7.thing, i2, h7.f, h7.t, h7.kf, h7.kt⟩))
          generalize WC.setCell ⟨g, k * 6 + 1, none⟩ (.int .i64 n) = W5 at *
          have hgs := HNW.out g (.inr (.inr rfl))
          have h9 : w2.heap.size ∉ [g] := by
            intro hm; rw [List.mem_singleton] at hm
            have hb := HB9.out
            rw [hm] at hb
            exact row_box HO.out.fas hb (by decide) rfl
          have h8 : w.heap.size + 1 ∉ [g] := by simp; omega
          have hnew5 : ∀ i, i ∈ [g] → i ∈ ([] : List Nat) ∨ w.heap.size ≤ i := fun i hi => by rw [List.mem_singleton] at hi; subst hi; exact .inr (by omega)
          clear t0 t1 r0 r1 r2 CI
          have HX9 : Hid (W5.heap[w2.heap.size]? = some (.cells #[.slice ao zs.length po, .slice aq c.rps.length pq, .slice (some ⟨g, 0, none⟩) c.fas.length ps] 30)) := Lib.hid (FS.keep HB9.out h9)
          have HX8 : Hid (W5.heap[w.heap.size + 1]? = some (.cells #[.slice none 0 0, .slice none 0 0, .slice none 0 0] 30)) := Lib.hid (FS.keep HB8.out h8)
          have F5 := Lib.hid (HF3.out.step FS hnew5)
          have n1 := cell_of_blk HX9.out 0; have n2 := cell_of_blk HX9.out 1; have n3 := cell_of_blk HX9.out 2
          have m1 := cell_of_blk HX8.out 0; have m2 := cell_of_blk HX8.out 1; have m3 := cell_of_blk HX8.out 2
          have o1 := free_of_blk HX8.out 0; have o2 := free_of_blk HX8.out 1; have o3 := free_of_blk HX8.out 2
          clear FS h9 h8 hnew5
          go_wp2_with fail
          have q1 := heap_setCell_same (i := 0) (.slice ao zs.length po) HX8.out
          have q2 := heap_setCell_same (i := 1) (.slice aq c.rps.length pq) q1
          have q3 := heap_setCell_same (i := 2) (.slice (some ⟨g, 0, none⟩) c.fas.length ps) q2
          simp only [List.setIfInBounds_toArray, List.set_cons_succ, List.set_cons_zero] at q3
          have FT : Fr [w.heap.size + 1] W5 _ := ((Fr.setCell W5 (p := ⟨w.heap.size + 1, 0, none⟩) (.slice ao zs.length po) (by simp)).trans (Fr.setCell _ (p := ⟨w.heap.size + 1, 1, none⟩) (.slice aq c.rps.length pq) (by simp))).trans (Fr.setCell _ (p := ⟨w.heap.size + 1, 2, none⟩) (.slice (some ⟨g, 0, none⟩) c.fas.length ps) (by simp))
          generalize ((W5.setCell ⟨w.heap.size + 1, 0, none⟩ (.slice ao zs.length po)).setCell ⟨w.heap.size + 1, 1, none⟩ (.slice aq c.rps.length pq)).setCell ⟨w.heap.size + 1, 2, none⟩ (.slice (some ⟨g, 0, none⟩) c.fas.length ps) = WF at *
          have k0 := cell_of_blk q3 0; have k1 := cell_of_blk q3 1; have k2 := cell_of_blk q3 2
          refine bodyPost_ret (by simp [results, Tryz.results6, go_sem, k0, k1, k2]; try rfl) rfl ?_
          refine ⟨F5.out.step FT (fun i hi => by simp at hi; exact .inr (by omega)), ?_⟩
          have HZ9 := HAT.out.box (HN8.out.1) (HN8.out.2.1) (HN8.out.2.2) HX8.out nil3 FT
          first | exact ⟨_, _, _, _, _, rfl, HZ9⟩ | exact ⟨_, _, _, rfl, _, _, HZ9⟩
        · have hff : decide ((0 : Int) < (c.fas.length : Int)) = false := decide_eq_false (by omega)
          have HAT := Lib.hid (HO.out.at_ HK.out)
          obtain ⟨W5, hw5⟩ : ∃ W : World, W = W3 := ⟨_, rfl⟩
          have FS : Fr [] W3 W5 := by rw [hw5]; exact Fr.refl _ _
          rw [← hw5] at r0 r1 r2 HAT ⊢
          have h9 : w2.heap.size ∉ ([] : List Nat) := by simp
          have h8 : w.heap.size + 1 ∉ ([] : List Nat) := by simp
          have hnew5 : ∀ i, i ∈ ([] : List Nat) → i ∈ ([] : List Nat) ∨ w.heap.size ≤ i := fun i hi => by cases hi
          clear hw5
          have HX9 : Hid (W5.heap[w2.heap.size]? = some (.cells #[.slice ao zs.length po, .slice aq c.rps.length pq, .slice az c.fas.length ps] 30)) := Lib.hid (FS.keep HB9.out h9)
          have HX8 : Hid (W5.heap[w.heap.size + 1]? = some (.cells #[.slice none 0 0, .slice none 0 0, .slice none 0 0] 30)) := Lib.hid (FS.keep HB8.out h8)
          have F5 := Lib.hid (HF3.out.step FS hnew5)
          have n1 := cell_of_blk HX9.out 0; have n2 := cell_of_blk HX9.out 1; have n3 := cell_of_blk HX9.out 2
          have m1 := cell_of_blk HX8.out 0; have m2 := cell_of_blk HX8.out 1; have m3 := cell_of_blk HX8.out 2
          have o1 := free_of_blk HX8.out 0; have o2 := free_of_blk HX8.out 1; have o3 := free_of_blk HX8.out 2
          clear FS h9 h8 hnew5
          go_wp2_with fail
          have q1 := heap_setCell_same (i := 0) (.slice ao zs.length po) HX8.out
          have q2 := heap_setCell_same (i := 1) (.slice aq c.rps.length pq) q1
          have q3 := heap_setCell_same (i := 2) (.slice az c.fas.length ps) q2
          simp only [List.setIfInBounds_toArray, List.set_cons_succ, List.set_cons_zero] at q3
          have FT : Fr [w.heap.size + 1] W5 _ := ((Fr.setCell W5 (p := ⟨w.heap.size + 1, 0, none⟩) (.slice ao zs.length po) (by simp)).trans (Fr.setCell _ (p := ⟨w.heap.size + 1, 1, none⟩) (.slice aq c.rps.length pq) (by simp))).trans (Fr.setCell _ (p := ⟨w.heap.size + 1, 2, none⟩) (.slice az c.fas.length ps) (by simp))
          generalize ((W5.setCell ⟨w.heap.size + 1, 0, none⟩ (.slice ao zs.length po)).setCell ⟨w.heap.size + 1, 1, none⟩ (.slice aq c.rps.length pq)).setCell ⟨w.heap.size + 1, 2, none⟩ (.slice az c.fas.length ps) = WF at *
          have k0 := cell_of_blk q3 0; have k1 := cell_of_blk q3 1; have k2 := cell_of_blk q3 2
          refine bodyPost_ret (by simp [results, Tryz.results6, go_sem, k0, k1, k2]; try rfl) rfl ?_
          refine ⟨F5.out.step FT (fun i hi => by simp at hi; exact .inr (by omega)), ?_⟩
          have HZ9 := HAT.out.box (HN8.out.1) (HN8.out.2.1) (HN8.out.2.2) HX8.out nil3 FT
          first | exact ⟨_, _, _, _, _, rfl, HZ9⟩ | exact ⟨_, _, _, rfl, _, _, HZ9⟩

end Go.Proofs.YtfidioedjmjddaaGreat
