/-
  dialtoneref08: Copy.
-/
import Derived.Test.YtfidioedjmjddaaL8i
namespace Go.Proofs.Ytfidioedjmjddaa
open Go.RowKit Go.Lib

/-- Few enough to be copied. -/
structure RbFew (c : Rb) : Prop where
  nc : c.cls.length ≤ 100
  nr : c.rps.length ≤ 100
  nf : c.fas.length ≤ 100
  needs : ∀ x, x ∈ c.cls → x.needs.length ≤ 100
  bars : ∀ x, x ∈ c.cls → x.bars.length ≤ 100
theorem MadeOk.few {c : Rb} (h : MadeOk c) : RbFew c :=
  ⟨by have := h.nc; omega, by have := h.nr; omega, by have := h.nf; omega, fun x hx => by have := (h.cls x hx).needs.len; omega, fun x hx => by have := (h.cls x hx).bars.len; omega⟩

abbrev cpW (w : World) (v1 v2 v3 : Value) : World := ((w.alloc (.cells #[v1, v2, v3] 32)).alloc (.cells #[.slice none 0 0, .slice none 0 0, .slice none 0 0] 32)).alloc (.cells #[.slice none 0 0, .slice none 0 0, .slice none 0 0] 32)
/-- Copy under way. -/
structure CpS (w : World) (v1 v2 v3 oc or_ of_ : Value) (zs : List ClV) (d : Rb) (W : World) : Prop where
  bx : BxS w (w.heap.size + 1 + 1) oc or_ of_ zs d W
  b1 : W.heap[w.heap.size]? = some (.cells #[v1, v2, v3] 32 (0, 0))
  b2 : W.heap[w.heap.size + 1]? = some (.cells #[.slice none 0 0, .slice none 0 0, .slice none 0 0] 32 (0, 0))
  fresh : ∀ g, oc.ownBlock = some g ∨ or_.ownBlock = some g ∨ of_.ownBlock = some g → w.heap.size + 3 ≤ g
  tfresh : ∀ y, y ∈ zs → ∀ g, y.vn.ownBlock = some g ∨ y.vb.ownBlock = some g → w.heap.size + 3 ≤ g
/-- What Copy returns. -/
def Copied (c : Rb) (w : World) (e : Ending) (w' : World) : Prop := Fr [] w w' ∧ ∃ oc or_ of_ zs, e = .returned (rbV oc or_ of_) ∧ RbOwn 0 w' oc or_ of_ zs c ∧ ∀ g, oc.ownBlock = some g ∨ or_.ownBlock = some g ∨ of_.ownBlock = some g → w.heap.size ≤ g

set_option maxRecDepth 1000000 in
set_option maxHeartbeats 1000000 in
theorem copy_c {N : Nat} (vc vr vf : Value) (ys : List ClV) (c : Rb) (w : World) (h : RbOwn N w vc vr vf ys c) (hf : RbFew c) :
    Calls Try.prog 9 #[.agg #[vc, vr, vf]] w (Copied c w) := by
  obtain ⟨ac, pc, rfl⟩ := (sl_of_row h.cls).val
  obtain ⟨ar, pr, rfl⟩ := (sl_of_row h.rps).val
  obtain ⟨af, pf, rfl⟩ := (sl_of_row h.fas).val
  have HA := Lib.hid (allocs_at [.cells #[.slice ac ys.length pc, .slice ar c.rps.length pr, .slice af c.fas.length pf] 32, .cells #[.slice none 0 0, .slice none 0 0, .slice none 0 0] 32, .cells #[.slice none 0 0, .slice none 0 0, .slice none 0 0] 32] w)
  have FA : Hid (Fr [] w _) := Lib.hid (allocs_fr [.cells #[.slice ac ys.length pc, .slice ar c.rps.length pr, .slice af c.fas.length pf] 32, .cells #[.slice none 0 0, .slice none 0 0, .slice none 0 0] 32, .cells #[.slice none 0 0, .slice none 0 0, .slice none 0 0] 32] w)
  have hyc : ys.length = c.cls.length := by rw [h.eq, List.length_map]
  have hyl : ys.length ≤ 100 := by have := hf.nc; omega
  have HW := Lib.hid h; have HF := Lib.hid hf; have HYC := Lib.hid hyc
  clear h hf hyc
  go_enter Try.func9, Try.ntmps9
  go_upto_block 0 with fail
  have S0 : CpS w (.slice ac ys.length pc) (.slice ar c.rps.length pr) (.slice af c.fas.length pf) (.slice none 0 0) (.slice none 0 0) (.slice none 0 0) [] ⟨[], [], []⟩ (cpW w (.slice ac ys.length pc) (.slice ar c.rps.length pr) (.slice af c.fas.length pf)) :=
    ⟨BxS.start FA.out (by omega) (HA.out 2 (by simp)), HA.out 0 (by simp), HA.out 1 (by simp), fun g hg => by (rcases hg with hg | hg | hg <;> cases hg), by simp⟩
  have HS0 := Lib.hid S0
  clear S0 HA FA
  go_cut [] (fun W => ∃ oc zs, Hid (CpS w (.slice ac ys.length pc) (.slice ar c.rps.length pr) (.slice af c.fas.length pf) oc (.slice none 0 0) (.slice none 0 0) zs ⟨c.cls, [], []⟩ W))
  case first =>
    go_wp2_with fail
    go_loopw [4] (fun i wr => ∃ (k : Nat) (oc : Value) (zs : List ClV), k ≤ ys.length ∧ i = .int .i64 k ∧ zs.length = k ∧ Hid (CpS w (.slice ac ys.length pc) (.slice ar c.rps.length pr) (.slice af c.fas.length pf) oc (.slice none 0 0) (.slice none 0 0) zs ⟨c.cls.take k, [], []⟩ wr)) (fun i _ => ys.length - (intOf i).toNat)
    case atStart => exact ⟨0, _, [], Nat.zero_le _, rfl, rfl, HS0⟩
    case round =>
      obtain ⟨k, oc, zs, hk, rfl, hzl, H⟩ := hrel
      have c10 := cell_of_blk H.out.b1 0
      by_cases hlt : k < ys.length
      · obtain ⟨ao, po, rfl⟩ := (sl_of_row H.out.bx.own.cls).val
        have HZL := Lib.hid hzl
        have hw := HW.out.same H.out.bx.fr
        obtain ⟨b, off, cap, hv, hcl⟩ := clRow_cells (sl_of_row hw.cls) k hlt
        cases hv
        obtain ⟨⟨⟨xp, xf, xt, xn, xb, xg⟩, vn, vb⟩, hx⟩ : ∃ y, ys[k] = y := ⟨_, rfl⟩
        rw [hx] at hcl
        have d0 := hcl 0 _ rfl
        have d1 := hcl 1 _ rfl
        have d2 := hcl 2 _ rfl
        have d3 := hcl 3 _ rfl
        have d4 := hcl 4 _ rfl
        have d5 := hcl 5 _ rfl
        simp only [Nat.add_zero] at d0 d1 d2 d3 d4 d5
        have hmem : ys[k] ∈ ys := List.getElem_mem hlt
        have HN := hw.needs _ hmem
        have HB := hw.bars _ hmem
        rw [hx] at HN HB
        simp only at HN HB
        obtain ⟨an, pn, rfl⟩ := HN.sl.val
        obtain ⟨ab, pb, rfl⟩ := HB.sl.val
        have hcm : ⟨xp, xf, xt, xn, xb, xg⟩ ∈ c.cls := by rw [hw.eq]; exact List.mem_map.2 ⟨_, hmem, by rw [hx]⟩
        have hnl := HF.out.needs _ hcm
        have hbl := HF.out.bars _ hcm
        simp only at hnl hbl
        have HTK : Hid (c.cls.take (k + 1) = c.cls.take k ++ [⟨xp, xf, xt, xn, xb, xg⟩]) := Lib.hid (by
          have hkc : k < c.cls.length := by rw [← HYC.out]; exact hlt
          rw [List.take_succ_eq_append_getElem hkc]
          congr 2
          have : c.cls[k] = (ys.map (·.x))[k]'(by simpa using hlt) := by congr 1; exact hw.eq
          rw [this, List.getElem_map, hx])
        have HNN := Lib.hid HN; have HBB := Lib.hid HB
        clear hcl hx hmem hcm hw HN HB hzl
        go_wp2_with (first | ((with_reducible refine wpList_of_wp (o := ⟨some 21, _, _, _, _, _⟩) rfl (fun K hK => ?_)); apply stop_in; case _other => exact trivial))
        (refine stop_in ?_ ?_; rotate_left; exact trivial)
        have A2 := alloc2' wr (.cells #[.int .i64 xp, .int .i64 xf, .int .i64 xt, .slice an xn.length pn, .slice ab xb.length pb, .int .i64 xg] 38) (.cells #[] 3)
        have FA : Fr [] wr ((wr.alloc (.cells #[.int .i64 xp, .int .i64 xf, .int .i64 xt, .slice an xn.length pn, .slice ab xb.length pb, .int .i64 xg] 38)).alloc (.cells #[] 3)) := (Fr.alloc _ _ _).trans (Fr.alloc _ _ _)
        generalize (wr.alloc (.cells #[.int .i64 xp, .int .i64 xf, .int .i64 xt, .slice an xn.length pn, .slice ab xb.length pb, .int .i64 xg] 38)).alloc (.cells #[] 3) = WA at *
        have hsw := H.out.bx.fr.size
        refine wp_append_src (.tmp 18) (.tmp 20) 36 3 _ 1 8 rfl Try.underlying36 infoI8 rfl (by decide) (.slice (some ⟨wr.heap.size + 1, 0, none⟩) 0 0) 0 [] rfl (row_blk0 A2.2 1) (.slice an xn.length pn) xn.length (intC xn) rfl (HNN.out.src.same FA) (by simp [intC]) (intC_one _) (by omega) (by omega) ?_
        intro ga cap1 W1 r1 f1 b1
        refine hK _ _ ?_
        clear hK K
        simp only [Nat.zero_add, List.nil_append] at r1 b1 ⊢
        have X1 := f1.keep A2.1 (by simp [Value.ownBlock])
        have F1 : Fr [] wr W1 := FA.step f1 (fun i hi => by simp [Value.ownBlock] at hi; exact .inr (by omega))
        have hs1 := blk_lt X1
        have G1 : ∀ g, (Value.slice ga xn.length cap1).ownBlock = some g → wr.heap.size < g := fun g hg => by
          have := FA.size; have hA := blk_lt A2.2
          rcases b1 with b1 | b1 <;> (rw [b1] at hg; simp [Value.ownBlock] at hg; omega)
        have t3 : W1.cell? ⟨wr.heap.size, 3, none⟩ = some (.slice an xn.length pn) := cell_of_blk X1 3
        have z3 : W1.frozen? ⟨wr.heap.size, 3, none⟩ = false := free_of_blk X1 3
        have t4 : W1.cell? ⟨wr.heap.size, 4, none⟩ = some (.slice ab xb.length pb) := cell_of_blk X1 4
        have HF1 := Lib.hid F1; have HG1 := Lib.hid G1; have HX1 := Lib.hid (heap_setCell_same (i := 3) (.slice ga xn.length cap1) X1)
        have HR1 := Lib.hid (row_fr r1 (Fr.setCell (fp := [wr.heap.size]) (p := ⟨wr.heap.size, 3, none⟩) W1 (.slice ga xn.length cap1) (by simp)) (fun g hg hm => by have := G1 g hg; simp at hm; omega))
        clear A2 FA f1 b1 X1 F1 G1 r1 d0 d1 d2 d3 d4 d5 c10
        go_wp2_with (first | ((with_reducible refine wpList_of_wp (o := ⟨some 26, _, _, _, _, _⟩) rfl (fun K hK => ?_)); apply stop_in; case _other => exact trivial))
        (refine stop_in ?_ ?_; rotate_left; exact trivial)
        have hss : (W1.setCell ⟨wr.heap.size, 3, none⟩ (.slice ga xn.length cap1)).heap.size = W1.heap.size := by simp [World.setCell]
        have E2 := heap_alloc_new (W1.setCell ⟨wr.heap.size, 3, none⟩ (.slice ga xn.length cap1)) (.cells #[] 3)
        rw [hss] at E2
        have X2 := heap_alloc_old (.cells #[] 3) HX1.out
        have F2 : Fr [] wr ((W1.setCell ⟨wr.heap.size, 3, none⟩ (.slice ga xn.length cap1)).alloc (.cells #[] 3)) := (HF1.out.step (Fr.setCell (fp := [wr.heap.size]) _ _ (by simp)) (fun i hi => .inr (by simp at hi; omega))).trans (Fr.alloc _ _ _)
        have R2 := row_fr HR1.out (Fr.alloc [] _ (.cells #[] 3)) (by simp)
        generalize (W1.setCell ⟨wr.heap.size, 3, none⟩ (.slice ga xn.length cap1)).alloc (.cells #[] 3) = WB at *
        refine wp_append_src (.tmp 23) (.tmp 25) 36 3 _ 1 8 rfl Try.underlying36 infoI8 rfl (by decide) (.slice (some ⟨W1.heap.size, 0, none⟩) 0 0) 0 [] rfl (row_blk0 E2 1) (.slice ab xb.length pb) xb.length (intC xb) rfl (HBB.out.src.same F2) (by simp [intC]) (intC_one _) (by omega) (by omega) ?_
        intro gb cap2 W2 r2 f2 b2
        refine hK _ _ ?_
        clear hK K
        simp only [Nat.zero_add, List.nil_append] at r2 b2 ⊢
        have hG1 := HG1.out
        have hW1 : ∀ g, (Value.slice ga xn.length cap1).ownBlock = some g → g < W1.heap.size := fun g hg => by have := ownsRow_lt HR1.out hg; omega
        have X3 := f2.keep X2 (by simp [Value.ownBlock]; omega)
        have F3 : Fr [] wr W2 := F2.step f2 (fun i hi => by simp [Value.ownBlock] at hi; exact .inr (by omega))
        have R3 := row_fr R2 f2 (fun g hg hm => by have := hW1 g hg; simp [Value.ownBlock] at hm; omega)
        have hs2 := blk_lt X3
        have G2 : ∀ g, (Value.slice gb xb.length cap2).ownBlock = some g → wr.heap.size < g := fun g hg => by
          have := F2.size; have hA := blk_lt E2
          rcases b2 with b2 | b2 <;> (rw [b2] at hg; simp [Value.ownBlock] at hg; omega)
        have t0 : W2.cell? ⟨wr.heap.size, 0, none⟩ = some (.int .i64 xp) := cell_of_blk X3 0
        have t1 : W2.cell? ⟨wr.heap.size, 1, none⟩ = some (.int .i64 xf) := cell_of_blk X3 1
        have t2 : W2.cell? ⟨wr.heap.size, 2, none⟩ = some (.int .i64 xt) := cell_of_blk X3 2
        have t3' : W2.cell? ⟨wr.heap.size, 3, none⟩ = some (.slice ga xn.length cap1) := cell_of_blk X3 3
        have t4' : W2.cell? ⟨wr.heap.size, 4, none⟩ = some (.slice ab xb.length pb) := cell_of_blk X3 4
        have t5 : W2.cell? ⟨wr.heap.size, 5, none⟩ = some (.int .i64 xg) := cell_of_blk X3 5
        have z4 : W2.frozen? ⟨wr.heap.size, 4, none⟩ = false := free_of_blk X3 4
        have CB := H.out.bx.same F3
        have hbn : w.heap.size + 1 + 1 < wr.heap.size := blk_lt H.out.bx.box
        have u0 : W2.cell? ⟨w.heap.size + 1 + 1, 0, none⟩ = some (.slice ao zs.length po) := cell_of_blk CB.box 0
        have hne : w.heap.size + 1 + 1 ≠ wr.heap.size := by omega
        have hFs : Fr [wr.heap.size] W2 (W2.setCell ⟨wr.heap.size, 4, none⟩ (.slice gb xb.length cap2)) := Fr.setCell _ _ (by simp)
        have HF3 : Hid (Fr [] wr (W2.setCell ⟨wr.heap.size, 4, none⟩ (.slice gb xb.length cap2))) := Lib.hid (F3.step hFs (fun i hi => .inr (by simp at hi; omega)))
        have HRa := Lib.hid (row_fr R3 hFs (fun g hg hm => by have := hG1 g hg; simp at hm; omega))
        have HRb := Lib.hid (row_fr r2 hFs (fun g hg hm => by have := G2 g hg; simp at hm; omega))
        have HG2 := Lib.hid G2
        have hsz2 : (W2.setCell ⟨wr.heap.size, 4, none⟩ (.slice gb xb.length cap2)).heap.size = W2.heap.size := by simp [World.setCell]
        have HSZ := Lib.hid hsz2
        clear hsz2 hFs CB G2 R3 F3 f2 b2 r2 hG1 hW1 F2 X2 E2 hss R2 X3 HX1 HR1 HF1 t3 t4 z3
        go_wp2_with (first | ((with_reducible refine wpList_of_wp (o := ⟨some 32, _, _, _, _, _⟩) rfl (fun K hK => ?_)); apply stop_in; case _other => exact trivial))
        (refine stop_in ?_ ?_; rotate_left; exact trivial)
        have F4 : Fr [] wr ((W2.setCell ⟨wr.heap.size, 4, none⟩ (.slice gb xb.length cap2)).alloc (.cells #[.int .i64 xp, .int .i64 xf, .int .i64 xt, .slice ga xn.length cap1, .slice gb xb.length cap2, .int .i64 xg] 38)) := HF3.out.trans (Fr.alloc _ _ _)
        have Ra := row_fr HRa.out (Fr.alloc [] _ (.cells #[.int .i64 xp, .int .i64 xf, .int .i64 xt, .slice ga xn.length cap1, .slice gb xb.length cap2, .int .i64 xg] 38)) (by simp)
        have Rb_ := row_fr HRb.out (Fr.alloc [] _ (.cells #[.int .i64 xp, .int .i64 xf, .int .i64 xt, .slice ga xn.length cap1, .slice gb xb.length cap2, .int .i64 xg] 38)) (by simp)
        have HSr := srcAt_new (W2.setCell ⟨wr.heap.size, 4, none⟩ (.slice gb xb.length cap2)) #[.int .i64 xp, .int .i64 xf, .int .i64 xt, .slice ga xn.length cap1, .slice gb xb.length cap2, .int .i64 xg] 38
        rw [HSZ.out] at HSr
        generalize (W2.setCell ⟨wr.heap.size, 4, none⟩ (.slice gb xb.length cap2)).alloc (.cells #[.int .i64 xp, .int .i64 xf, .int .i64 xt, .slice ga xn.length cap1, .slice gb xb.length cap2, .int .i64 xg] 38) = WC at *
        have B4 := H.out.bx.same F4
        have hzz := HZL.out
        refine wp_append_src (.tmp 29) (.tmp 31) 28 38 _ 6 80 rfl Try.underlying28 infoCl rfl (by decide) (.slice ao zs.length po) zs.length _ rfl B4.own.cls (.slice (some ⟨W2.heap.size, 0, none⟩) 1 1) 1 [.int .i64 xp, .int .i64 xf, .int .i64 xt, .slice ga xn.length cap1, .slice gb xb.length cap2, .int .i64 xg] rfl HSr rfl (by simp [Value.oneCell']) (by omega) (by omega) ?_
        intro gc cap3 W5 r5 f5 b5
        refine hK _ _ ?_
        clear hK K
        have P5 := B4.putCl (y := ⟨⟨xp, xf, xt, xn, xb, xg⟩, .slice ga xn.length cap1, .slice gb xb.length cap2⟩) (intsR_of_row Ra) (intsR_of_row Rb_) (fun g hg => by
          have hlt' : g < WC.heap.size := by rcases hg with hg | hg; exact ownsRow_lt Ra hg; exact ownsRow_lt Rb_ hg
          have hge : wr.heap.size < g := by rcases hg with hg | hg; exact HG1.out g hg; exact HG2.out g hg
          exact ⟨hlt', by omega, fun e => by have := ownsRow_lt H.out.bx.own.cls e; omega, (by simp [Value.ownBlock]), (by simp [Value.ownBlock])⟩) r5 rfl rfl f5 b5
        have KB := H.out
        have hbx5 : w.heap.size + 1 + 1 ∉ (Value.slice ao zs.length po).ownBlock.toList := fun hm => by have := KB.fresh _ (.inl (by simpa using hm)); omega
        have X5 := f5.keep B4.box hbx5
        have FS5 : Fr [w.heap.size + 1 + 1] W5 (W5.setCell ⟨w.heap.size + 1 + 1, 0, none⟩ (.slice gc (zs.length + 1) cap3)) := Fr.setCell _ _ (by simp)
        have HM : Hid (CpS w (.slice (some ⟨b, off, none⟩) ys.length pc) (.slice ar c.rps.length pr) (.slice af c.fas.length pf) (.slice gc (zs.length + 1) cap3) (.slice none 0 0) (.slice none 0 0) (zs ++ [⟨⟨xp, xf, xt, xn, xb, xg⟩, .slice ga xn.length cap1, .slice gb xb.length cap2⟩]) ⟨c.cls.take (k + 1), [], []⟩ (W5.setCell ⟨w.heap.size + 1 + 1, 0, none⟩ (.slice gc (zs.length + 1) cap3))) := Lib.hid (by
          refine ⟨by rw [HTK.out]; exact P5, ?_, ?_, fun g hg => ?_, fun y hy g hg => ?_⟩
          · exact FS5.keep (f5.keep (F4.keep KB.b1 (by simp)) (fun hm => by have := KB.fresh _ (.inl (by simpa using hm)); omega)) (by simp; omega)
          · exact FS5.keep (f5.keep (F4.keep KB.b2 (by simp)) (fun hm => by have := KB.fresh _ (.inl (by simpa using hm)); omega)) (by simp)
          · rcases hg with hg | hg | hg
            · exact new_ge b5 (by have := F4.size; omega) (fun g hg => KB.fresh g (.inl hg)) g hg
            · cases hg
            · cases hg
          · rcases List.mem_append.1 hy with hy | hy
            · exact KB.tfresh y hy g hg
            · simp only [List.mem_singleton] at hy
              subst hy
              have hge : wr.heap.size < g := by rcases hg with hg | hg; exact HG1.out g hg; exact HG2.out g hg
              omega)
        have v0 : W5.cell? ⟨w.heap.size + 1 + 1, 0, none⟩ = some (.slice ao zs.length po) := cell_of_blk X5 0
        have vz : W5.frozen? ⟨w.heap.size + 1 + 1, 0, none⟩ = false := free_of_blk X5 0
        clear hzz P5 KB hbx5 X5 FS5 r5 f5 b5 B4 HSr Ra Rb_ F4 t0 t1 t2 t3' t4' t5 z4 u0
        go_wp2_with fail
        go_roundw
        case rel =>
          refine ⟨k + 1, _, _, by omega, by go_num, ?_, HM⟩
          rw [List.length_append, HZL.out]; rfl
        case measure => simp [intOf]; omega
      · obtain rfl : k = ys.length := by omega
        go_wp2_with fail
        go_meet
        case rel => exact ⟨oc, zs, by rw [List.take_of_length_le (by rw [← HYC.out]; exact Nat.le_refl _)] at H; exact H⟩
  case rest =>
    obtain ⟨oc, zs, H⟩ := hcut
    obtain ⟨ao, po, rfl⟩ := (sl_of_row H.out.bx.own.cls).val
    have hrl := HF.out.nr; have hfl := HF.out.nf
    have c1 := cell_of_blk H.out.b1 1
    have hb1 := blk_lt H.out.b1
    go_wp2_with (first | ((with_reducible refine wpList_of_wp (o := ⟨some 37, _, _, _, _, _⟩) rfl (fun K hK => ?_)); apply stop_in; case _other => exact trivial))
    (refine stop_in ?_ ?_; rotate_left; exact trivial)
    have E1 := heap_alloc_new wc (.cells #[] 52)
    have F1 := Fr.alloc [] wc (.cells #[] 52)
    generalize wc.alloc (.cells #[] 52) = WA at *
    have B1 := H.out.bx.same F1
    have W1' := (HW.out.same H.out.bx.fr).same F1
    refine wp_append_src (.tmp 34) (.tmp 36) 29 52 _ 3 24 rfl Try.underlying29 infoRp rfl (by decide) (.slice (some ⟨wc.heap.size, 0, none⟩) 0 0) 0 [] rfl (row_blk0 E1 3) (.slice ar c.rps.length pr) c.rps.length _ rfl (srcAt_of_row W1'.rps) (rpC_len _) (rpC_one _) (by omega) (by omega) ?_
    intro g1 cap1 W1 r1 f1 b1
    refine hK _ _ ?_
    clear hK K
    simp only [Nat.zero_add, List.nil_append] at r1 b1 ⊢
    have hsw := H.out.bx.fr.size
    have hbl := blk_lt H.out.bx.box
    have hF1 : Fr [] wc W1 := F1.step f1 (fun i hi => .inr (by simp [Value.ownBlock] at hi; omega))
    have N1 : ∀ g, (Value.slice g1 c.rps.length cap1).ownBlock = some g → wc.heap.size ≤ g := fun g hg => by
      have := F1.size
      rcases b1 with b1 | b1 <;> (rw [b1] at hg; simp [Value.ownBlock] at hg; omega)
    have P1 := H.out.bx.putRp (rs := c.rps) (v' := .slice g1 c.rps.length cap1) (W1 := W1) r1 rfl rfl (hF1.mono (by simp)) (fun g hg => .inr (N1 g hg))
    have FS1 : Fr [w.heap.size + 1 + 1] W1 (W1.setCell ⟨w.heap.size + 1 + 1, 1, none⟩ (.slice g1 c.rps.length cap1)) := Fr.setCell _ _ (by simp)
    have Q1 := FS1.keep (hF1.keep H.out.b1 (by simp)) (by simp; omega)
    have Q2 := FS1.keep (hF1.keep H.out.b2 (by simp)) (by simp)
    have hs1 : (W1.setCell ⟨w.heap.size + 1 + 1, 1, none⟩ (.slice g1 c.rps.length cap1)).heap.size = W1.heap.size := by simp [World.setCell]
    have X1 := hF1.keep H.out.bx.box (by simp)
    have v1 : W1.cell? ⟨w.heap.size + 1 + 1, 1, none⟩ = some (.slice none 0 0) := cell_of_blk X1 1
    have z1 : W1.frozen? ⟨w.heap.size + 1 + 1, 1, none⟩ = false := free_of_blk X1 1
    have y2 : W1.cell? ⟨w.heap.size, 2, none⟩ = some (.slice af c.fas.length pf) := cell_of_blk (hF1.keep H.out.b1 (by simp)) 2
    have hz1 : w.heap.size < W1.heap.size := by have := hF1.size; omega
    have HP1 := Lib.hid P1; have HQ1 := Lib.hid Q1; have HQ2 := Lib.hid Q2; have HS1 := Lib.hid hs1
    have HFR := Lib.hid (fun g (hg : (Value.slice ao zs.length po).ownBlock = some g ∨ (Value.slice g1 c.rps.length cap1).ownBlock = some g) => (show w.heap.size + 3 ≤ g from by
      rcases hg with hg | hg
      · exact H.out.fresh g (.inl hg)
      · have := N1 g hg; omega))
    clear E1 F1 B1 W1' r1 f1 b1 hF1 N1 P1 FS1 Q1 Q2 hs1 X1 c1
    go_wp2_with (first | ((with_reducible refine wpList_of_wp (o := ⟨some 42, _, _, _, _, _⟩) rfl (fun K hK => ?_)); apply stop_in; case _other => exact trivial))
    (refine stop_in ?_ ?_; rotate_left; exact trivial)
    have E1 := heap_alloc_new (W1.setCell ⟨w.heap.size + 1 + 1, 1, none⟩ (.slice g1 c.rps.length cap1)) (.cells #[] 50)
    rw [HS1.out] at E1
    have P1 := HP1.out; have Q1 := HQ1.out; have Q2 := HQ2.out; have hs1 := HS1.out
    clear HP1 HQ1 HQ2 HS1
    generalize W1.setCell ⟨w.heap.size + 1 + 1, 1, none⟩ (.slice g1 c.rps.length cap1) = WB at *
    have F1 := Fr.alloc [] WB (.cells #[] 50)
    generalize WB.alloc (.cells #[] 50) = WA at *
    have W1' := (HW.out.same P1.fr).same F1
    refine wp_append_src (.tmp 39) (.tmp 41) 30 50 _ 6 48 rfl Try.underlying30 infoFa rfl (by decide) (.slice (some ⟨W1.heap.size, 0, none⟩) 0 0) 0 [] rfl (row_blk0 E1 6) (.slice af c.fas.length pf) c.fas.length _ rfl (srcAt_of_row W1'.fas) (faC_len _) (faC_one _) (by omega) (by omega) ?_
    intro g2 cap2 W2 r2 f2 b2
    refine hK _ _ ?_
    clear hK K
    simp only [Nat.zero_add, List.nil_append] at r2 b2 ⊢
    have hF2 : Fr [] WB W2 := F1.step f2 (fun i hi => .inr (by simp [Value.ownBlock] at hi; omega))
    have N2 : ∀ g, (Value.slice g2 c.fas.length cap2).ownBlock = some g → WB.heap.size ≤ g := fun g hg => by
      have := F1.size
      rcases b2 with b2 | b2 <;> (rw [b2] at hg; simp [Value.ownBlock] at hg; omega)
    have P2 := P1.putFa (rs := c.fas) (v' := .slice g2 c.fas.length cap2) (W1 := W2) r2 rfl rfl (hF2.mono (by simp)) (fun g hg => .inr (N2 g hg))
    have FS2 : Fr [w.heap.size + 1 + 1] W2 (W2.setCell ⟨w.heap.size + 1 + 1, 2, none⟩ (.slice g2 c.fas.length cap2)) := Fr.setCell _ _ (by simp)
    have R2 := FS2.keep (hF2.keep Q2 (by simp)) (by simp)
    have X2 := hF2.keep P1.box (by simp)
    have v2 : W2.cell? ⟨w.heap.size + 1 + 1, 2, none⟩ = some (.slice none 0 0) := cell_of_blk X2 2
    have z2 : W2.frozen? ⟨w.heap.size + 1 + 1, 2, none⟩ = false := free_of_blk X2 2
    have v0 : W2.cell? ⟨w.heap.size + 1 + 1, 0, none⟩ = some (.slice ao zs.length po) := cell_of_blk X2 0
    have v1' : W2.cell? ⟨w.heap.size + 1 + 1, 1, none⟩ = some (.slice g1 c.rps.length cap1) := cell_of_blk X2 1
    have rr := hF2.keep Q2 (by simp)
    have q0 : W2.cell? ⟨w.heap.size + 1, 0, none⟩ = some (.slice none 0 0) := cell_of_blk rr 0
    have q1 : W2.cell? ⟨w.heap.size + 1, 1, none⟩ = some (.slice none 0 0) := cell_of_blk rr 1
    have q2 : W2.cell? ⟨w.heap.size + 1, 2, none⟩ = some (.slice none 0 0) := cell_of_blk rr 2
    have e0 : W2.frozen? ⟨w.heap.size + 1, 0, none⟩ = false := free_of_blk rr 0
    have e1 : W2.frozen? ⟨w.heap.size + 1, 1, none⟩ = false := free_of_blk rr 1
    have e2 : W2.frozen? ⟨w.heap.size + 1, 2, none⟩ = false := free_of_blk rr 2
    have hn12 : w.heap.size + 1 + 1 ≠ w.heap.size + 1 := by omega
    have hn21 : w.heap.size + 1 ≠ w.heap.size + 1 + 1 := by omega
    have HP2 := Lib.hid P2; have HR2 := Lib.hid R2
    have HFR2 := Lib.hid (fun g (hg : (Value.slice g2 c.fas.length cap2).ownBlock = some g) => (show w.heap.size + 3 ≤ g from by have := N2 g hg; have := P1.fr.size; have := blk_lt P1.box; omega))
    clear E1 F1 W1' r2 f2 b2 hF2 N2 P2 FS2 R2 X2 P1 Q1 Q2 hs1 rr y2 v1 z1
    go_wp2_with fail
    have HT := Lib.hid H.out.tfresh
    clear v2 z2 v0 v1' q0 q1 q2 e0 e1 e2
    have PP := HP2.out; have RR := HR2.out
    clear HP2 HR2
    generalize W2.setCell ⟨w.heap.size + 1 + 1, 2, none⟩ (.slice g2 c.fas.length cap2) = WZ at *
    have B0 := heap_setCell_same (i := 0) (.slice ao zs.length po) RR
    have B1 := heap_setCell_same (i := 1) (.slice g1 c.rps.length cap1) B0
    have B2 := heap_setCell_same (i := 2) (.slice g2 c.fas.length cap2) B1
    have hF : Fr [w.heap.size + 1] WZ (((WZ.setCell ⟨w.heap.size + 1, 0, none⟩ (.slice ao zs.length po)).setCell ⟨w.heap.size + 1, 1, none⟩ (.slice g1 c.rps.length cap1)).setCell ⟨w.heap.size + 1, 2, none⟩ (.slice g2 c.fas.length cap2)) := ((Fr.setCell _ _ (by simp)).trans (Fr.setCell _ _ (by simp))).trans (Fr.setCell _ _ (by simp))
    clear B0 B1
    generalize (((WZ.setCell ⟨w.heap.size + 1, 0, none⟩ (.slice ao zs.length po)).setCell ⟨w.heap.size + 1, 1, none⟩ (.slice g1 c.rps.length cap1)).setCell ⟨w.heap.size + 1, 2, none⟩ (.slice g2 c.fas.length cap2)) = W3 at *
    have k0 : W3.cell? ⟨w.heap.size + 1, 0, none⟩ = some (.slice ao zs.length po) := cell_of_blk B2 0
    have k1 : W3.cell? ⟨w.heap.size + 1, 1, none⟩ = some (.slice g1 c.rps.length cap1) := cell_of_blk B2 1
    have k2 : W3.cell? ⟨w.heap.size + 1, 2, none⟩ = some (.slice g2 c.fas.length cap2) := cell_of_blk B2 2
    refine bodyPost_ret (by simp [results, Try.results9, go_sem, k0, k1, k2]; try rfl) rfl ⟨PP.fr.step hF (fun i hi => .inr (by simp at hi; omega)), _, _, _, zs, rfl, PP.own.frH hF (fun g hg hm => ?_), fun g hg => ?_⟩
    · simp only [List.mem_singleton] at hm
      rcases hg with hg | hg | hg | ⟨y, hy, hg⟩
      · have := HFR.out g (.inl hg); omega
      · have := HFR.out g (.inr hg); omega
      · have := HFR2.out g hg; omega
      · have := HT.out y hy g hg; omega
    · rcases hg with hg | hg | hg
      · have := HFR.out g (.inl hg); omega
      · have := HFR.out g (.inr hg); omega
      · have := HFR2.out g hg; omega

end Go.Proofs.Ytfidioedjmjddaa
