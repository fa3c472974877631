/-
  dialtoneref08's Made.
-/
import Derived.Test.YtahfpadaoobkfaaGreatDoorQS27
import Derived.Deep.CutBlock
import Derived.Deep.DeepCutAuto
namespace Go.Proofs.YtahfpadaoobkfaaGreatDoor
open Go.RowKit Go.Lib

theorem infoCl : (Tryz.prog.info? 105).map (fun i => (i.zero, i.size, i.bytes)) = some (some (.agg #[.int .i64 0, .int .i64 0, .int .i64 0, .slice none 0 0, .slice none 0 0, .int .i64 0]), 6, 80) := by kernel_rfl
theorem infoRp : (Tryz.prog.info? 108).map (fun i => (i.zero, i.size, i.bytes)) = some (some (.agg #[.int .i64 0, .int .i64 0, .int .i64 0]), 3, 24) := by kernel_rfl
theorem infoFa : (Tryz.prog.info? 93).map (fun i => (i.zero, i.size, i.bytes)) = some (some (.agg #[.int .i64 0, .int .i64 0, .int .i64 0, .int .i64 0, .int .i64 0, .int .i64 0]), 6, 48) := by kernel_rfl

/-- Integers in memory, k to an element. -/
structure NumAt (w : World) (v : Value) (n k : Nat) (is : List Int) : Prop where
  sl : Sl w v n (intC is)
  len : is.length = n * k
  ok : ∀ x, x ∈ is → I64 x
theorem NumAt.same {w w' : World} {v : Value} {n k : Nat} {is : List Int} (h : NumAt w v n k is) (hf : Fr [] w w') : NumAt w' v n k is := ⟨h.sl.same hf, h.len, h.ok⟩
theorem NumAt.cell {w : World} {b off cap n k : Nat} {is : List Int} (h : NumAt w (.slice (some ⟨b, off, none⟩) n cap) n k is) {i j : Nat} (hi : i < n) (hj : j < k) : ∃ x, w.cell? ⟨b, off + i * k + j, none⟩ = some (.int .i64 x) ∧ I64 x := by
  obtain ⟨b', off', ha, hc⟩ := h.sl.at_ (by omega)
  cases ha
  have hlt : i * k + j < is.length := by
    rw [h.len]
    have : (i + 1) * k ≤ n * k := Nat.mul_le_mul_right k hi
    rw [Nat.succ_mul] at this
    omega
  refine ⟨is[i * k + j], ?_, h.ok _ (List.getElem_mem hlt)⟩
  have := hc (i * k + j) (.int .i64 is[i * k + j]) (by simp [hlt])
  rwa [← Nat.add_assoc] at this

abbrev mdW (w : World) (v1 v2 v3 : Value) : World := ((w.alloc (.cells #[v1, v2, v3] 30)).alloc (.cells #[.slice none 0 0, .slice none 0 0, .slice none 0 0] 36)).alloc (.cells #[.slice none 0 0, .slice none 0 0, .slice none 0 0] 36)
/-- Made under way. -/
structure MdS (w : World) (v1 v2 v3 vc vr vf : Value) (ys : List ClV) (c : Rb) (W : World) : Prop where
  fr : Fr [w.heap.size + 1 + 1] (mdW w v1 v2 v3) W
  box : W.heap[w.heap.size + 1 + 1]? = some (.cells #[vc, vr, vf] 36 (0, 0))
  own : RbOwn (w.heap.size + 3) W vc vr vf ys c
  ok : MadeOk c
theorem mdW_blk (w : World) (v1 v2 v3 : Value) : (mdW w v1 v2 v3).heap[w.heap.size]? = some (.cells #[v1, v2, v3] 30 (0, 0)) ∧ (mdW w v1 v2 v3).heap[w.heap.size + 1]? = some (.cells #[.slice none 0 0, .slice none 0 0, .slice none 0 0] 36 (0, 0)) ∧ (mdW w v1 v2 v3).heap[w.heap.size + 1 + 1]? = some (.cells #[.slice none 0 0, .slice none 0 0, .slice none 0 0] 36 (0, 0)) := by
  have hs : ∀ (w : World) (o : Obj), (w.alloc o).heap.size = w.heap.size + 1 := fun w o => Array.size_push ..
  refine ⟨heap_alloc_old _ (heap_alloc_old _ (heap_alloc_new _ _)), ?_, ?_⟩
  · have := heap_alloc_new (w.alloc (.cells #[v1, v2, v3] 30)) (.cells #[.slice none 0 0, .slice none 0 0, .slice none 0 0] 36)
    rw [hs] at this
    exact heap_alloc_old _ this
  · have := heap_alloc_new ((w.alloc (.cells #[v1, v2, v3] 30)).alloc (.cells #[.slice none 0 0, .slice none 0 0, .slice none 0 0] 36)) (.cells #[.slice none 0 0, .slice none 0 0, .slice none 0 0] 36)
    rw [hs, hs] at this
    exact this
theorem MdS.start (w : World) (v1 v2 v3 : Value) : MdS w v1 v2 v3 (.slice none 0 0) (.slice none 0 0) (.slice none 0 0) [] ⟨[], [], []⟩ (mdW w v1 v2 v3) :=
  ⟨Fr.refl _ _, (mdW_blk w v1 v2 v3).2.2, RbOwn.start _ _, ⟨by simp, by simp, by simp, by simp, by simp, by simp⟩⟩
theorem MdS.same {w : World} {v1 v2 v3 vc vr vf : Value} {ys : List ClV} {c : Rb} {W W' : World} (h : MdS w v1 v2 v3 vc vr vf ys c W) (hf : Fr [] W W') : MdS w v1 v2 v3 vc vr vf ys c W' :=
  ⟨h.fr.trans (hf.mono (by simp)), hf.keep h.box (by simp), h.own.same hf, h.ok⟩
theorem MdS.b1 {w : World} {v1 v2 v3 vc vr vf : Value} {ys : List ClV} {c : Rb} {W : World} (h : MdS w v1 v2 v3 vc vr vf ys c W) : W.heap[w.heap.size]? = some (.cells #[v1, v2, v3] 30 (0, 0)) := h.fr.keep (mdW_blk w v1 v2 v3).1 (by simp; omega)
theorem MdS.b2 {w : World} {v1 v2 v3 vc vr vf : Value} {ys : List ClV} {c : Rb} {W : World} (h : MdS w v1 v2 v3 vc vr vf ys c W) : W.heap[w.heap.size + 1]? = some (.cells #[.slice none 0 0, .slice none 0 0, .slice none 0 0] 36 (0, 0)) := h.fr.keep (mdW_blk w v1 v2 v3).2.1 (by simp)
theorem MdS.num {w : World} {v1 v2 v3 vc vr vf v : Value} {ys : List ClV} {c : Rb} {W : World} {n k : Nat} {is : List Int} (h : MdS w v1 v2 v3 vc vr vf ys c W) (hn : NumAt w v n k is) : NumAt W v n k is := by
  have h1 : Fr [] w (mdW w v1 v2 v3) := ((Fr.alloc _ _ _).trans (Fr.alloc _ _ _)).trans (Fr.alloc _ _ _)
  refine hn.same (h1.step h.fr (fun i hi => .inr ?_))
  simp at hi; omega

theorem mdW_size (w : World) (v1 v2 v3 : Value) : (mdW w v1 v2 v3).heap.size = w.heap.size + 3 := by
  have hs : ∀ (w : World) (o : Obj), (w.alloc o).heap.size = w.heap.size + 1 := fun w o => Array.size_push ..
  unfold mdW
  rw [hs, hs, hs]
theorem MdS.size {w : World} {v1 v2 v3 vc vr vf : Value} {ys : List ClV} {c : Rb} {W : World} (h : MdS w v1 v2 v3 vc vr vf ys c W) : w.heap.size + 3 ≤ W.heap.size := by
  have := h.fr.size
  rwa [mdW_size] at this
theorem MdS.all {w : World} {v1 v2 v3 vc vr vf : Value} {ys : List ClV} {c : Rb} {W : World} (h : MdS w v1 v2 v3 vc vr vf ys c W) : Fr [] w W := by
  have h1 : Fr [] w (mdW w v1 v2 v3) := ((Fr.alloc _ _ _).trans (Fr.alloc _ _ _)).trans (Fr.alloc _ _ _)
  exact h1.step h.fr (fun i hi => .inr (by simp at hi; omega))
theorem RpM.more {n m : Nat} {x : Rp} (h : RpM n x) (hm : n ≤ m) : RpM m x := ⟨⟨h.cl.1, by have := h.cl.2; omega⟩, h.pub, h.frm⟩
theorem MdS.store {w : World} {v1 v2 v3 vc vr vf vc' vr' vf' v' : Value} {ys : List ClV} {c : Rb} {wr W W1 : World} {S : List Nat} {j : Nat} {ys' : List ClV} {c' : Rb} (h : MdS w v1 v2 v3 vc vr vf ys c wr) (hf : Fr [] wr W) (hf1 : Fr S W W1) (hS : ∀ g, g ∈ S → w.heap.size + 3 ≤ g)
    (own : RbOwn (w.heap.size + 3) W1 vc' vr' vf' ys' c') (ok : MadeOk c') (he : #[vc, vr, vf].setIfInBounds j v' = #[vc', vr', vf']) : MdS w v1 v2 v3 vc' vr' vf' ys' c' (W1.setCell ⟨w.heap.size + 1 + 1, j, none⟩ v') := by
  have hW := h.same hf
  have hbox : w.heap.size + 1 + 1 ∉ S := fun hm => by have := hS _ hm; omega
  have hsc : Fr [w.heap.size + 1 + 1] W1 (W1.setCell ⟨w.heap.size + 1 + 1, j, none⟩ v') := Fr.setCell _ _ (by simp)
  refine ⟨(hW.fr.step hf1 (fun i hi => .inr (by rw [mdW_size]; exact hS i hi))).trans hsc, ?_, own.fr hsc (fun g hg => by simp at hg; omega), ok⟩
  rw [heap_setCell_same _ (hf1.keep hW.box hbox), he]
theorem MdS.putCl {w : World} {v1 v2 v3 vc vr vf v' : Value} {ys : List ClV} {c : Rb} {wr W W1 : World} {y : ClV} {n : Nat} {xs : List Value} (h : MdS w v1 v2 v3 vc vr vf ys c wr) (hf : Fr [] wr W) (h1 : IntsR W y.vn y.x.needs) (h2 : IntsR W y.vb y.x.bars)
    (hb : ∀ g, y.vn.ownBlock = some g ∨ y.vb.ownBlock = some g → wr.heap.size ≤ g ∧ g < W.heap.size) (hr : W1.ownsRow 0 105 6 v' n xs) (hn : n = ys.length + 1) (hx : xs = ys.flatMap clC ++ clC y)
    (hf1 : Fr vc.ownBlock.toList W W1) (ho : v'.ownBlock = vc.ownBlock ∨ v'.ownBlock = some W.heap.size) (hy : ClM y.x) (hl : ys.length < 8) :
    MdS w v1 v2 v3 v' vr vf (ys ++ [y]) ⟨c.cls ++ [y.x], c.rps, c.fas⟩ (W1.setCell ⟨w.heap.size + 1 + 1, 0, none⟩ v') := by
  have hW := h.same hf
  have hlt : ∀ g, wr.heap.size ≤ g → vc.ownBlock ≠ some g ∧ vr.ownBlock ≠ some g ∧ vf.ownBlock ≠ some g := fun g hg => ⟨fun e => by have := ownsRow_lt h.own.cls e; omega, fun e => by have := ownsRow_lt h.own.rps e; omega, fun e => by have := ownsRow_lt h.own.fas e; omega⟩
  have hs0 := h.size
  have own := hW.own.addCl (y := y) hW.size hr hn hx hf1 ho h1 h2 (fun g hg => ⟨by have := (hb g hg).1; omega, (hb g hg).2, hlt g (hb g hg).1⟩)
  have hcl : c.cls.length = ys.length := by rw [h.own.eq, List.length_map]
  refine h.store hf hf1 (fun g hg => (h.own.nc g (by simpa using hg)).1) own ⟨by simp; omega, h.ok.nr, h.ok.nf, fun x hx => ?_, fun x hx => (h.ok.rps x hx).more (by simp), h.ok.fas⟩ rfl
  rcases List.mem_append.1 hx with hx | hx
  · exact h.ok.cls x hx
  · simp only [List.mem_singleton] at hx; subst hx; exact hy
theorem MdS.putRp {w : World} {v1 v2 v3 vc vr vf v' : Value} {ys : List ClV} {c : Rb} {wr W W1 : World} {y : Rp} {n : Nat} {xs : List Value} (h : MdS w v1 v2 v3 vc vr vf ys c wr) (hf : Fr [] wr W)
    (hr : W1.ownsRow 0 108 3 v' n xs) (hn : n = c.rps.length + 1) (hx : xs = c.rps.flatMap rpC ++ rpC y)
    (hf1 : Fr vr.ownBlock.toList W W1) (ho : v'.ownBlock = vr.ownBlock ∨ v'.ownBlock = some W.heap.size) (hy : RpM c.cls.length y) (hl : c.rps.length < 3) :
    MdS w v1 v2 v3 vc v' vf ys ⟨c.cls, c.rps ++ [y], c.fas⟩ (W1.setCell ⟨w.heap.size + 1 + 1, 1, none⟩ v') := by
  have hW := h.same hf
  refine h.store hf hf1 (fun g hg => (h.own.nr g (by simpa using hg)).1) (hW.own.addRp (y := y) hW.size hr hn hx hf1 ho) ⟨h.ok.nc, by simp; omega, h.ok.nf, h.ok.cls, fun x hx => ?_, h.ok.fas⟩ rfl
  rcases List.mem_append.1 hx with hx | hx
  · exact h.ok.rps x hx
  · simp only [List.mem_singleton] at hx; subst hx; exact hy
theorem MdS.putFa {w : World} {v1 v2 v3 vc vr vf v' : Value} {ys : List ClV} {c : Rb} {wr W W1 : World} {y : Fa} {n : Nat} {xs : List Value} (h : MdS w v1 v2 v3 vc vr vf ys c wr) (hf : Fr [] wr W)
    (hr : W1.ownsRow 0 93 6 v' n xs) (hn : n = c.fas.length + 1) (hx : xs = c.fas.flatMap faC ++ faC y)
    (hf1 : Fr vf.ownBlock.toList W W1) (ho : v'.ownBlock = vf.ownBlock ∨ v'.ownBlock = some W.heap.size) (hy : FaM y) (hl : c.fas.length < 8) :
    MdS w v1 v2 v3 vc vr v' ys ⟨c.cls, c.rps, c.fas ++ [y]⟩ (W1.setCell ⟨w.heap.size + 1 + 1, 2, none⟩ v') := by
  have hW := h.same hf
  refine h.store hf hf1 (fun g hg => h.own.nf g (by simpa using hg)) (hW.own.addFa (y := y) hW.size hr hn hx hf1 ho) ⟨h.ok.nc, h.ok.nr, by simp; omega, h.ok.cls, h.ok.rps, fun x hx => ?_⟩ rfl
  rcases List.mem_append.1 hx with hx | hx
  · exact h.ok.fas x hx
  · simp only [List.mem_singleton] at hx; subst hx; exact hy

/-- The rules under way and the integers of one element, as they lie while a region draws. -/
def YS (bx : Nat) (vc vr vf : Value) (by_ : Nat) (cs : Array Value) (t : TypeId) (W : World) : Prop := W.heap[bx]? = some (.cells #[vc, vr, vf] 36 (0, 0)) ∧ W.heap[by_]? = some (.cells cs t (0, 0))
theorem YS.fr {bx : Nat} {vc vr vf : Value} {by_ : Nat} {cs : Array Value} {t : TypeId} {W W' : World} {S : List Nat} (h : YS bx vc vr vf by_ cs t W) (hf : Fr S W W') (h1 : bx ∉ S) (h2 : by_ ∉ S) : YS bx vc vr vf by_ cs t W' := ⟨hf.keep h.1 h1, hf.keep h.2 h2⟩

theorem srcAt_new (w : World) (c : Array Value) (t : TypeId) : SrcAt (w.alloc (.cells c t)) (.slice (some ⟨w.heap.size, 0, none⟩) 1 1) 1 c.toList :=
  ⟨.inr ⟨_, 1, rfl, fun j u hu => by
    rw [addr_add, Nat.zero_add, cell_of_blk (heap_alloc_new _ _)]
    rwa [Array.getElem?_toList] at hu⟩⟩

set_option maxRecDepth 100000 in
set_option maxHeartbeats 2000000 in
theorem made_c (v1 v2 v3 : Value) (n1 n2 n3 : Nat) (is1 is2 is3 : List Int) (w : World) (h1 : NumAt w v1 n1 6 is1) (h2 : NumAt w v2 n2 3 is2) (h3 : NumAt w v3 n3 6 is3) :
    Calls Tryz.prog 6 #[.agg #[v1, v2, v3]] w fun e w' => Fr [] w w' ∧ ∃ vc vr vf ys c, e = .returned (rbV vc vr vf) ∧ MadeOk c ∧ RbOwn (w.heap.size + 3) w' vc vr vf ys c := by
  obtain ⟨a1, p1, rfl⟩ := h1.sl.val
  obtain ⟨a2, p2, rfl⟩ := h2.sl.val
  obtain ⟨a3, p3, rfl⟩ := h3.sl.val
  have hl1 := h1.sl.len; have hl2 := h2.sl.len; have hl3 := h3.sl.len
  have H1 := Lib.hid h1; have H2 := Lib.hid h2; have H3 := Lib.hid h3
  clear h1 h2 h3
  go_enter Tryz.func6, Tryz.ntmps6
  go_upto_block 0 with fail
  go_cut [] (fun W => ∃ vc ys, Hid (MdS w (.slice a1 n1 p1) (.slice a2 n2 p2) (.slice a3 n3 p3) vc (.slice none 0 0) (.slice none 0 0) ys ⟨ys.map (·.x), [], []⟩ W))
  case first =>
    go_wp2_with fail
    go_loopw [4] (fun i wr => ∃ (k : Nat) (vc : Value) (ys : List ClV), k ≤ n1 ∧ k ≤ 8 ∧ i = .int .i64 k ∧ ys.length = k ∧ Hid (MdS w (.slice a1 n1 p1) (.slice a2 n2 p2) (.slice a3 n3 p3) vc (.slice none 0 0) (.slice none 0 0) ys ⟨ys.map (·.x), [], []⟩ wr)) (fun i _ => 8 - (intOf i).toNat)
    case atStart => exact ⟨0, _, [], Nat.zero_le _, by omega, rfl, rfl, Lib.hid (MdS.start _ _ _ _)⟩
    case round =>
      obtain ⟨k, vc, ys, hk, hk8, rfl, hyl, H⟩ := hrel
      have HYL := Lib.hid hyl
      clear hyl
      have c10 := cell_of_blk H.out.b1 0
      obtain ⟨ac, pc, rfl⟩ := (sl_of_row H.out.own.cls).val
      have c30 := cell_of_blk H.out.box 0
      by_cases hlt : k < n1
      · by_cases hlt8 : k < 8
        · obtain ⟨b, off, ha, _⟩ := H1.out.sl.at_ (by omega)
          subst ha
          have N := H.out.num H1.out
          obtain ⟨x0, d0, o0⟩ := N.cell hlt (show 0 < 6 by omega)
          obtain ⟨x1, d1, o1⟩ := N.cell hlt (show 1 < 6 by omega)
          obtain ⟨x2, d2, o2⟩ := N.cell hlt (show 2 < 6 by omega)
          obtain ⟨x3, d3, o3⟩ := N.cell hlt (show 3 < 6 by omega)
          obtain ⟨x4, d4, o4⟩ := N.cell hlt (show 4 < 6 by omega)
          obtain ⟨x5, d5, o5⟩ := N.cell hlt (show 5 < 6 by omega)
          simp only [Nat.add_zero] at d0
          clear N
          have CG := Lib.hid fun W => pick8_c x3 8 W o3 (by omega) (by omega)
          have bg := pickI_bound x3 8 (by omega)
          have CP := Lib.hid fun W => pick8_c x0 80 W o0 (by omega) (by omega)
          have bp := pickI_bound x0 80 (by omega)
          have CT := Lib.hid fun W => part_c x1 x2 W o1 o2
          have bf := pickI_bound x1 50 (by omega)
          have bt := pickI_bound x2 50 (by omega)
          generalize pickI x3 8 = gv at *
          generalize pickI x0 80 = pv at *
          generalize pickI x1 50 = fv at *
          generalize pickI x2 50 = tv at *
          have CN := Lib.hid fun W => bits_c x4 gv W o4 ⟨bg.1, by omega⟩
          have CB := Lib.hid fun W => bits_c x5 gv W o5 ⟨bg.1, by omega⟩
          clear o0 o1 o2 o3 o4 o5
          go_wp2_with fail
          refine (CG.out _).mono ?_
          rintro e wg ⟨rfl, rfl⟩
          go_wp2_with fail
          have hsz := H.out.size
          have Y0 : YS (w.heap.size + 1 + 1) (.slice ac ys.length pc) (.slice none 0 0) (.slice none 0 0) wr.heap.size #[.int .i64 x0, .int .i64 x1, .int .i64 x2, .int .i64 x3, .int .i64 x4, .int .i64 x5] 101 (wr.alloc (.cells #[.int .i64 x0, .int .i64 x1, .int .i64 x2, .int .i64 x3, .int .i64 x4, .int .i64 x5] 101)) := ⟨heap_alloc_old _ H.out.box, heap_alloc_new _ _⟩
          have FA := Lib.hid (Fr.alloc [] wr (.cells #[.int .i64 x0, .int .i64 x1, .int .i64 x2, .int .i64 x3, .int .i64 x4, .int .i64 x5] 101))
          generalize wr.alloc (.cells #[.int .i64 x0, .int .i64 x1, .int .i64 x2, .int .i64 x3, .int .i64 x4, .int .i64 x5] 101) = WA at *
          clear c10 c30 d0 d1 d2 d3 d4 d5
          refine reg_fin (YS (w.heap.size + 1 + 1) (.slice ac ys.length pc) (.slice none 0 0) (.slice none 0 0) wr.heap.size #[.int .i64 x0, .int .i64 x1, .int .i64 x2, .int .i64 x3, .int .i64 x4, .int .i64 x5] 101) 23 [0, 1, 2, 3, 5, 6, 7, 8, 10, 11, 12, 14, 15, 16, 18, 4, 9, 13, 17, 19, 20, 21, 22, 23] (by kernel_rfl) (by kernel_rfl) (by kernel_rfl) rfl ?_
          have Y1 := Y0.fr (Fr.drew [] _) (by simp) (by simp)
          iterate 15 (refine fin_take (v := ?_) rfl rfl rfl rfl Y1 (fun w hS => ?_) ?_; rotate_left; (focus (obtain ⟨s, y⟩ := hS; have s0 := cell_of_blk s 0; have y0 := cell_of_blk y 0; have y1 := cell_of_blk y 1; have y2 := cell_of_blk y 2; have y4 := cell_of_blk y 4; have y5 := cell_of_blk y 5; clear s y; go_simp; rfl)); simp only [List.setIfInBounds_toArray, List.set_cons_succ, List.set_cons_zero])
          refine fin_do rfl rfl rfl (fun K hK => ?_)
          go_simp
          refine (CP.out _).mono ?_
          rintro e w1 ⟨rfl, rfl⟩
          refine hK _ _ Y1 ?_
          clear hK K
          try simp only [Act.put, List.setIfInBounds_toArray, List.set_cons_succ, List.set_cons_zero]
          refine fin_do rfl rfl rfl (fun K hK => ?_)
          go_simp
          refine (CT.out _).mono ?_
          rintro e WP ⟨rfl, fP⟩
          have Y2 := Y1.fr fP (by simp) (by simp)
          refine hK _ _ Y2 ?_
          clear hK K
          try simp only [Act.put, List.setIfInBounds_toArray, List.set_cons_succ, List.set_cons_zero]
          refine fin_do rfl rfl rfl (fun K hK => ?_)
          go_simp
          refine (CN.out _).mono ?_
          rintro e WN ⟨vn, ln, rfl, fN, rN, tN, bN⟩
          obtain ⟨an, pn, rfl⟩ := (sl_of_row rN).val
          have Y3 := Y2.fr fN (by simp) (by simp)
          refine hK _ _ Y3 ?_
          clear hK K
          try simp only [Act.put, List.setIfInBounds_toArray, List.set_cons_succ, List.set_cons_zero]
          refine fin_do rfl rfl rfl (fun K hK => ?_)
          go_simp
          refine (CB.out _).mono ?_
          rintro e WB ⟨vb, lb, rfl, fB, rB, tB, bB⟩
          obtain ⟨ab, pb, rfl⟩ := (sl_of_row rB).val
          have Y4 := Y3.fr fB (by simp) (by simp)
          refine hK _ _ Y4 ?_
          clear hK K
          try simp only [Act.put, List.setIfInBounds_toArray, List.set_cons_succ, List.set_cons_zero]
          refine fin_take (v := ?_) rfl rfl rfl rfl Y4 (fun w hS => ?_) ?_
          rotate_left
          (focus (go_simp; rfl))
          simp only [List.setIfInBounds_toArray, List.set_cons_succ, List.set_cons_zero]
          refine fin_do rfl rfl rfl (fun K hK => ?_)
          go_simp
          have Y5 := Y4.fr (Fr.alloc [] WB (.cells #[.int .i64 pv, .int .i64 fv, .int .i64 (fv + 1 + tv), .slice an ln.length pn, .slice ab lb.length pb, .int .i64 gv] 105)) (by simp) (by simp)
          refine hK _ _ Y5 ?_
          clear hK K
          try simp only [Act.put, List.setIfInBounds_toArray, List.set_cons_succ, List.set_cons_zero]
          have HSr := srcAt_new WB #[.int .i64 pv, .int .i64 fv, .int .i64 (fv + 1 + tv), .slice an ln.length pn, .slice ab lb.length pb, .int .i64 gv] 105
          have F5 : Fr [] wr (WB.alloc (.cells #[.int .i64 pv, .int .i64 fv, .int .i64 (fv + 1 + tv), .slice an ln.length pn, .slice ab lb.length pb, .int .i64 gv] 105)) := ((((FA.out.trans (Fr.drew _ _)).trans fP).trans fN).trans fB).trans (Fr.alloc _ _ _)
          have FN5 : Fr [] WN (WB.alloc (.cells #[.int .i64 pv, .int .i64 fv, .int .i64 (fv + 1 + tv), .slice an ln.length pn, .slice ab lb.length pb, .int .i64 gv] 105)) := fB.trans (Fr.alloc _ _ _)
          have FB5 : Fr [] WB (WB.alloc (.cells #[.int .i64 pv, .int .i64 fv, .int .i64 (fv + 1 + tv), .slice an ln.length pn, .slice ab lb.length pb, .int .i64 gv] 105)) := Fr.alloc _ _ _
          generalize WB.alloc (.cells #[.int .i64 pv, .int .i64 fv, .int .i64 (fv + 1 + tv), .slice an ln.length pn, .slice ab lb.length pb, .int .i64 gv] 105) = WS at *
          refine fin_do (o := ⟨some 51, _, _, _, _, _⟩) rfl rfl rfl (fun K hK => ?_)
          refine wp_append_src (.tmp 31) (.tmp 50) 32 105 _ 6 80 rfl Tryz.underlying32 infoCl rfl (by decide) (.slice ac ys.length pc) ys.length _ rfl (H.out.same F5).own.cls (.slice (some ⟨WB.heap.size, 0, none⟩) 1 1) 1 [.int .i64 pv, .int .i64 fv, .int .i64 (fv + 1 + tv), .slice an ln.length pn, .slice ab lb.length pb, .int .i64 gv] rfl HSr rfl (by simp [Value.oneCell']) (by have := HYL.out; omega) (by have := HYL.out; omega) ?_
          intro ga cap w' h1 h2 h3
          have Y6 := Y5.fr h2 (fun hm => by have := (H.out.own.nc _ (by simpa using hm)).1; omega) (fun hm => by have := ownsRow_lt H.out.own.cls (by simpa using hm); omega)
          refine hK _ _ Y6 ?_
          clear hK K
          try simp only [Act.put, List.setIfInBounds_toArray, List.set_cons_succ, List.set_cons_zero]
          refine fin_take (v := ?_) rfl rfl rfl rfl Y6 (fun w hS => ?_) ?_
          rotate_left
          (focus (go_simp; rfl))
          try simp only [List.setIfInBounds_toArray, List.set_cons_succ, List.set_cons_zero]
          have t0 := cell_of_blk Y6.1 0
          refine fin_last (o := ⟨none, _, _, _, _, _⟩) rfl rfl rfl (fun K hK => ?_)
          have t1 : w'.cell? ⟨w.heap.size + 1 + 1, 0, none⟩ = some (.slice ac ys.length pc) := t0
          have t2 := free_of_blk Y6.1 0
          go_simp
          try go_upon
          try go_simp
          refine hK _ _ ?_
          clear hK K
          have HM := Lib.hid (H.out.putCl (y := ⟨⟨pv, fv, fv + 1 + tv, ln, lb, gv⟩, .slice an ln.length pn, .slice ab lb.length pb⟩) F5 ((intsR_of_row rN).same FN5) ((intsR_of_row rB).same FB5) (fun g hg => by
            have e1 := FA.out.size; have e2 := fP.size; have e3 := fN.size; have e4 := fB.size; have e5 := FB5.size; have e6 := (Fr.drew [] WA).size
            rcases hg with hg | hg
            · have := bN g hg; have := ownsRow_lt rN hg; omega
            · have := bB g hg; have := ownsRow_lt rB hg; omega) h1 rfl rfl h2 h3 ⟨bp, ⟨bf.1, by show fv < fv + 1 + tv; omega, by show fv + 1 + tv ≤ 100; omega⟩, bg, tN, tB⟩ (by have := HYL.out; omega))
          clear t0 Y0 Y1 Y2 Y3 Y4 Y5 Y6 h1 h2 h3 HSr F5 FN5 FB5 fP fN fB
          go_wp2_with fail
          go_roundw
          case rel => exact ⟨k + 1, _, ys ++ [⟨⟨pv, fv, fv + 1 + tv, ln, lb, gv⟩, .slice an ln.length pn, .slice ab lb.length pb⟩], by omega, by omega, by go_num, by simp [HYL.out], by simpa using HM⟩
          case measure => simp [intOf]; omega
        · go_wp2_with fail
          go_meet
          case rel => exact ⟨_, _, H⟩
      · go_wp2_with fail
        go_meet
        case rel => exact ⟨_, _, H⟩
  case rest =>
    obtain ⟨vc, ys, H0⟩ := hcut
    obtain ⟨ac, pc, rfl⟩ := (sl_of_row H0.out.own.cls).val
    go_upto_block 2 with fail
    go_cut [] (fun W => ∃ vr rs, Hid (MdS w (.slice a1 n1 p1) (.slice a2 n2 p2) (.slice a3 n3 p3) (.slice ac ys.length pc) vr (.slice none 0 0) ys ⟨ys.map (·.x), rs, []⟩ W))
    case first =>
      go_wp2_with fail
      go_loopw [7] (fun i wr => ∃ (k : Nat) (vr : Value) (rs : List Rp), k ≤ n2 ∧ k ≤ 3 ∧ i = .int .i64 k ∧ rs.length = k ∧ Hid (MdS w (.slice a1 n1 p1) (.slice a2 n2 p2) (.slice a3 n3 p3) (.slice ac ys.length pc) vr (.slice none 0 0) ys ⟨ys.map (·.x), rs, []⟩ wr)) (fun i _ => 3 - (intOf i).toNat)
      case atStart => exact ⟨0, _, [], Nat.zero_le _, by omega, rfl, rfl, H0⟩
      case round =>
        obtain ⟨k, vr, rs, hk, hk8, rfl, hyl, H⟩ := hrel
        have HYL := Lib.hid hyl
        clear hyl
        have c10 := cell_of_blk H.out.b1 1
        obtain ⟨ar, pr, rfl⟩ := (sl_of_row H.out.own.rps).val
        have c30 := cell_of_blk H.out.box 0
        have c31 := cell_of_blk H.out.box 1
        have hyl := H.out.ok.nc
        simp only [List.length_map] at hyl
        by_cases hlt : k < n2
        · by_cases hlt8 : k < 3
          · by_cases hy0 : 0 < ys.length
            · obtain ⟨b, off, ha, _⟩ := H2.out.sl.at_ (by omega)
              subst ha
              have N := H.out.num H2.out
              obtain ⟨x0, d0, o0⟩ := N.cell hlt (show 0 < 3 by omega)
              obtain ⟨x1, d1, o1⟩ := N.cell hlt (show 1 < 3 by omega)
              obtain ⟨x2, d2, o2⟩ := N.cell hlt (show 2 < 3 by omega)
              simp only [Nat.add_zero] at d0
              clear N
              have CG := Lib.hid fun W => pick8_c x0 ys.length W o0 (by omega) (by omega)
              have bg := pickI_bound x0 ys.length (by omega)
              have CP := Lib.hid fun W => pick8_c x1 100 W o1 (by omega) (by omega)
              have bp := pickI_bound x1 100 (by omega)
              have CT := Lib.hid fun W => pick8_c x2 100 W o2 (by omega) (by omega)
              have bt := pickI_bound x2 100 (by omega)
              generalize pickI x0 ys.length = gv at *
              generalize pickI x1 100 = pv at *
              generalize pickI x2 100 = tv at *
              clear o0 o1 o2
              go_wp2_with fail
              have hsz := H.out.size
              have Y0 : YS (w.heap.size + 1 + 1) (.slice ac ys.length pc) (.slice ar rs.length pr) (.slice none 0 0) wr.heap.size #[.int .i64 x0, .int .i64 x1, .int .i64 x2] 106 (wr.alloc (.cells #[.int .i64 x0, .int .i64 x1, .int .i64 x2] 106)) := ⟨heap_alloc_old _ H.out.box, heap_alloc_new _ _⟩
              have FA := Lib.hid (Fr.alloc [] wr (.cells #[.int .i64 x0, .int .i64 x1, .int .i64 x2] 106))
              generalize wr.alloc (.cells #[.int .i64 x0, .int .i64 x1, .int .i64 x2] 106) = WA at *
              clear c10 c30 c31 d0 d1 d2
              refine reg_fin (YS (w.heap.size + 1 + 1) (.slice ac ys.length pc) (.slice ar rs.length pr) (.slice none 0 0) wr.heap.size #[.int .i64 x0, .int .i64 x1, .int .i64 x2] 106) 18 [0, 1, 2, 3, 4, 5, 6, 8, 9, 11, 12, 7, 10, 13, 14, 15, 16, 17, 18] (by kernel_rfl) (by kernel_rfl) (by kernel_rfl) rfl ?_
              have Y1 := Y0.fr (Fr.drew [] _) (by simp) (by simp)
              have F1 : Fr [] wr WA.drew := FA.out.trans (Fr.drew _ _)
              generalize WA.drew = WD at Y1 F1 ⊢
              clear Y0 FA
              iterate 11 (refine fin_take (v := ?_) rfl rfl rfl rfl Y1 (fun w hS => ?_) ?_; rotate_left; (focus (obtain ⟨s, y⟩ := hS; have s0 := cell_of_blk s 0; have s1 := cell_of_blk s 1; have y0 := cell_of_blk y 0; have y1 := cell_of_blk y 1; have y2 := cell_of_blk y 2; clear s y; go_simp; rfl)); simp only [List.setIfInBounds_toArray, List.set_cons_succ, List.set_cons_zero])
              refine fin_do rfl rfl rfl (fun K hK => ?_)
              go_simp
              refine (CG.out _).mono ?_
              rintro e w1 ⟨rfl, rfl⟩
              refine hK _ _ Y1 ?_
              clear hK K
              try simp only [Act.put, List.setIfInBounds_toArray, List.set_cons_succ, List.set_cons_zero]
              refine fin_do rfl rfl rfl (fun K hK => ?_)
              go_simp
              refine (CP.out _).mono ?_
              rintro e w1 ⟨rfl, rfl⟩
              refine hK _ _ Y1 ?_
              clear hK K
              try simp only [Act.put, List.setIfInBounds_toArray, List.set_cons_succ, List.set_cons_zero]
              refine fin_do rfl rfl rfl (fun K hK => ?_)
              go_simp
              refine (CT.out _).mono ?_
              rintro e w1 ⟨rfl, rfl⟩
              refine hK _ _ Y1 ?_
              clear hK K
              try simp only [Act.put, List.setIfInBounds_toArray, List.set_cons_succ, List.set_cons_zero]
              refine fin_take (v := ?_) rfl rfl rfl rfl Y1 (fun w hS => ?_) ?_
              rotate_left
              (focus (go_simp; rfl))
              simp only [List.setIfInBounds_toArray, List.set_cons_succ, List.set_cons_zero]
              refine fin_do rfl rfl rfl (fun K hK => ?_)
              go_simp
              have YB := Y1.fr (Fr.alloc [] WD (.cells #[.int .i64 gv, .int .i64 pv, .int .i64 tv] 108)) (by simp) (by simp)
              refine hK _ _ YB ?_
              clear hK K
              try simp only [Act.put, List.setIfInBounds_toArray, List.set_cons_succ, List.set_cons_zero]
              have HSr := srcAt_new WD #[.int .i64 gv, .int .i64 pv, .int .i64 tv] 108
              have FB : Fr [] wr (WD.alloc (.cells #[.int .i64 gv, .int .i64 pv, .int .i64 tv] 108)) := F1.trans (Fr.alloc _ _ _)
              generalize WD.alloc (.cells #[.int .i64 gv, .int .i64 pv, .int .i64 tv] 108) = WS at *
              refine fin_do (o := ⟨some 91, _, _, _, _, _⟩) rfl rfl rfl (fun K hK => ?_)
              refine wp_append_src (.tmp 76) (.tmp 90) 33 108 _ 3 24 rfl Tryz.underlying33 infoRp rfl (by decide) (.slice ar rs.length pr) rs.length _ rfl (H.out.same FB).own.rps (.slice (some ⟨WD.heap.size, 0, none⟩) 1 1) 1 [.int .i64 gv, .int .i64 pv, .int .i64 tv] rfl HSr rfl (by simp [Value.oneCell']) (by have := HYL.out; omega) (by have := HYL.out; omega) ?_
              intro ga cap w' h1 h2 h3
              have YC := YB.fr h2 (fun hm => by have := (H.out.own.nr _ (by simpa using hm)).1; omega) (fun hm => by have := ownsRow_lt H.out.own.rps (by simpa using hm); omega)
              refine hK _ _ YC ?_
              clear hK K
              try simp only [Act.put, List.setIfInBounds_toArray, List.set_cons_succ, List.set_cons_zero]
              refine fin_take (v := ?_) rfl rfl rfl rfl YC (fun w hS => ?_) ?_
              rotate_left
              (focus (go_simp; rfl))
              try simp only [List.setIfInBounds_toArray, List.set_cons_succ, List.set_cons_zero]
              have t1 : w'.cell? ⟨w.heap.size + 1 + 1, 1, none⟩ = some ((.slice ar rs.length pr)) := cell_of_blk YC.1 1
              have t2 := free_of_blk YC.1 1
              refine fin_last (o := ⟨none, _, _, _, _, _⟩) rfl rfl rfl (fun K hK => ?_)
              go_simp
              try go_upon
              try go_simp
              refine hK _ _ ?_
              clear hK K
              have HM := Lib.hid (H.out.putRp (y := ⟨gv, pv, tv⟩) FB h1 rfl rfl h2 h3 ⟨by simpa using bg, bp, bt⟩ (by have := HYL.out; show rs.length < 3; omega))
              clear t1 t2 YB YC h1 h2 h3 HSr FB
              go_wp2_with fail
              go_roundw
              case rel => exact ⟨k + 1, _, rs ++ [⟨gv, pv, tv⟩], by omega, by omega, by go_num, by simp [HYL.out], HM⟩
              case measure => simp [intOf]; omega
            · have hy1 : ys.length = 0 := by omega
              go_wp2_with fail
              go_meet
              case rel => exact ⟨_, _, H⟩
          · go_wp2_with fail
            go_meet
            case rel => exact ⟨_, _, H⟩
        · go_wp2_with fail
          go_meet
          case rel => exact ⟨_, _, H⟩
    case rest =>
      obtain ⟨vr, rs, H0⟩ := hcut
      obtain ⟨ar, pr, rfl⟩ := (sl_of_row H0.out.own.rps).val
      go_upto_block 4 with fail
      go_cut [] (fun W => ∃ vf fs, Hid (MdS w (.slice a1 n1 p1) (.slice a2 n2 p2) (.slice a3 n3 p3) (.slice ac ys.length pc) (.slice ar rs.length pr) vf ys ⟨ys.map (·.x), rs, fs⟩ W))
      case first =>
        go_wp2_with fail
        go_loopw [9] (fun i wr => ∃ (k : Nat) (vf : Value) (fs : List Fa), k ≤ n3 ∧ k ≤ 8 ∧ i = .int .i64 k ∧ fs.length = k ∧ Hid (MdS w (.slice a1 n1 p1) (.slice a2 n2 p2) (.slice a3 n3 p3) (.slice ac ys.length pc) (.slice ar rs.length pr) vf ys ⟨ys.map (·.x), rs, fs⟩ wr)) (fun i _ => 8 - (intOf i).toNat)
        case atStart => exact ⟨0, _, [], Nat.zero_le _, by omega, rfl, rfl, H0⟩
        case round =>
          obtain ⟨k, vf, fs, hk, hk8, rfl, hyl, H⟩ := hrel
          have HYL := Lib.hid hyl
          clear hyl
          have c10 := cell_of_blk H.out.b1 2
          obtain ⟨af, pf, rfl⟩ := (sl_of_row H.out.own.fas).val
          have c32 := cell_of_blk H.out.box 2
          by_cases hlt : k < n3
          · by_cases hlt8 : k < 8
            · obtain ⟨b, off, ha, _⟩ := H3.out.sl.at_ (by omega)
              subst ha
              have N := H.out.num H3.out
              obtain ⟨x0, d0, o0⟩ := N.cell hlt (show 0 < 6 by omega)
              obtain ⟨x1, d1, o1⟩ := N.cell hlt (show 1 < 6 by omega)
              obtain ⟨x2, d2, o2⟩ := N.cell hlt (show 2 < 6 by omega)
              obtain ⟨x3, d3, o3⟩ := N.cell hlt (show 3 < 6 by omega)
              obtain ⟨x4, d4, o4⟩ := N.cell hlt (show 4 < 6 by omega)
              obtain ⟨x5, d5, o5⟩ := N.cell hlt (show 5 < 6 by omega)
              simp only [Nat.add_zero] at d0
              clear N
              have CG := Lib.hid fun W => pick8_c x0 3 W o0 (by omega) (by omega)
              have bg := pickI_bound x0 3 (by omega)
              have CP := Lib.hid fun W => pick8_c x1 6 W o1 (by omega) (by omega)
              have bp := pickI_bound x1 6 (by omega)
              have CS := Lib.hid fun W => part_c x2 x3 W o2 o3
              have bf := pickI_bound x2 50 (by omega)
              have bt := pickI_bound x3 50 (by omega)
              have CK := Lib.hid fun W => part_c x4 x5 W o4 o5
              have bkf := pickI_bound x4 50 (by omega)
              have bkt := pickI_bound x5 50 (by omega)
              generalize pickI x0 3 = gv at *
              generalize pickI x1 6 = pv at *
              generalize pickI x2 50 = fv at *
              generalize pickI x3 50 = tv at *
              generalize pickI x4 50 = kf at *
              generalize pickI x5 50 = kt at *
              clear o0 o1 o2 o3 o4 o5
              go_wp2_with fail
              have hsz := H.out.size
              have Y0 : YS (w.heap.size + 1 + 1) (.slice ac ys.length pc) (.slice ar rs.length pr) (.slice af fs.length pf) wr.heap.size #[.int .i64 x0, .int .i64 x1, .int .i64 x2, .int .i64 x3, .int .i64 x4, .int .i64 x5] 101 (wr.alloc (.cells #[.int .i64 x0, .int .i64 x1, .int .i64 x2, .int .i64 x3, .int .i64 x4, .int .i64 x5] 101)) := ⟨heap_alloc_old _ H.out.box, heap_alloc_new _ _⟩
              have FA := Lib.hid (Fr.alloc [] wr (.cells #[.int .i64 x0, .int .i64 x1, .int .i64 x2, .int .i64 x3, .int .i64 x4, .int .i64 x5] 101))
              generalize wr.alloc (.cells #[.int .i64 x0, .int .i64 x1, .int .i64 x2, .int .i64 x3, .int .i64 x4, .int .i64 x5] 101) = WA at *
              clear c10 c32 d0 d1 d2 d3 d4 d5
              refine reg_fin (YS (w.heap.size + 1 + 1) (.slice ac ys.length pc) (.slice ar rs.length pr) (.slice af fs.length pf) wr.heap.size #[.int .i64 x0, .int .i64 x1, .int .i64 x2, .int .i64 x3, .int .i64 x4, .int .i64 x5] 101) 22 [0, 1, 2, 3, 5, 6, 8, 9, 10, 11, 13, 14, 15, 16, 4, 7, 12, 17, 18, 19, 20, 21, 22] (by kernel_rfl) (by kernel_rfl) (by kernel_rfl) rfl ?_
              have Y1 := Y0.fr (Fr.drew [] _) (by simp) (by simp)
              have F1 : Fr [] wr WA.drew := FA.out.trans (Fr.drew _ _)
              generalize WA.drew = WD at Y1 F1 ⊢
              clear Y0 FA
              iterate 14 (refine fin_take (v := ?_) rfl rfl rfl rfl Y1 (fun w hS => ?_) ?_; rotate_left; (focus (obtain ⟨s, y⟩ := hS; have s2 := cell_of_blk s 2; have y0 := cell_of_blk y 0; have y1 := cell_of_blk y 1; have y2 := cell_of_blk y 2; have y3 := cell_of_blk y 3; have y4 := cell_of_blk y 4; have y5 := cell_of_blk y 5; clear s y; go_simp; rfl)); simp only [List.setIfInBounds_toArray, List.set_cons_succ, List.set_cons_zero])
              refine fin_do rfl rfl rfl (fun K hK => ?_)
              go_simp
              refine (CG.out _).mono ?_
              rintro e w1 ⟨rfl, rfl⟩
              refine hK _ _ Y1 ?_
              clear hK K
              try simp only [Act.put, List.setIfInBounds_toArray, List.set_cons_succ, List.set_cons_zero]
              refine fin_do rfl rfl rfl (fun K hK => ?_)
              go_simp
              refine (CP.out _).mono ?_
              rintro e w1 ⟨rfl, rfl⟩
              refine hK _ _ Y1 ?_
              clear hK K
              try simp only [Act.put, List.setIfInBounds_toArray, List.set_cons_succ, List.set_cons_zero]
              refine fin_do rfl rfl rfl (fun K hK => ?_)
              go_simp
              refine (CS.out _).mono ?_
              rintro e W4 ⟨rfl, f4⟩
              have Y4 := Y1.fr f4 (by simp) (by simp)
              refine hK _ _ Y4 ?_
              clear hK K
              try simp only [Act.put, List.setIfInBounds_toArray, List.set_cons_succ, List.set_cons_zero]
              have F4 := F1.trans f4
              refine fin_do rfl rfl rfl (fun K hK => ?_)
              go_simp
              refine (CK.out _).mono ?_
              rintro e W5 ⟨rfl, f5⟩
              have Y5 := Y4.fr f5 (by simp) (by simp)
              refine hK _ _ Y5 ?_
              clear hK K
              try simp only [Act.put, List.setIfInBounds_toArray, List.set_cons_succ, List.set_cons_zero]
              have F5 := F4.trans f5
              refine fin_take (v := ?_) rfl rfl rfl rfl Y5 (fun w hS => ?_) ?_
              rotate_left
              (focus (go_simp; rfl))
              simp only [List.setIfInBounds_toArray, List.set_cons_succ, List.set_cons_zero]
              refine fin_do rfl rfl rfl (fun K hK => ?_)
              go_simp
              have YB := Y5.fr (Fr.alloc [] W5 (.cells #[.int .i64 gv, .int .i64 pv, .int .i64 fv, .int .i64 (fv + 1 + tv), .int .i64 kf, .int .i64 (kf + 1 + kt)] 93)) (by simp) (by simp)
              refine hK _ _ YB ?_
              clear hK K
              try simp only [Act.put, List.setIfInBounds_toArray, List.set_cons_succ, List.set_cons_zero]
              have HSr := srcAt_new W5 #[.int .i64 gv, .int .i64 pv, .int .i64 fv, .int .i64 (fv + 1 + tv), .int .i64 kf, .int .i64 (kf + 1 + kt)] 93
              have FB : Fr [] wr (W5.alloc (.cells #[.int .i64 gv, .int .i64 pv, .int .i64 fv, .int .i64 (fv + 1 + tv), .int .i64 kf, .int .i64 (kf + 1 + kt)] 93)) := F5.trans (Fr.alloc _ _ _)
              generalize W5.alloc (.cells #[.int .i64 gv, .int .i64 pv, .int .i64 fv, .int .i64 (fv + 1 + tv), .int .i64 kf, .int .i64 (kf + 1 + kt)] 93) = WS at *
              refine fin_do (o := ⟨some 129, _, _, _, _, _⟩) rfl rfl rfl (fun K hK => ?_)
              refine wp_append_src (.tmp 110) (.tmp 128) 34 93 _ 6 48 rfl Tryz.underlying34 infoFa rfl (by decide) (.slice af fs.length pf) fs.length _ rfl (H.out.same FB).own.fas (.slice (some ⟨W5.heap.size, 0, none⟩) 1 1) 1 [.int .i64 gv, .int .i64 pv, .int .i64 fv, .int .i64 (fv + 1 + tv), .int .i64 kf, .int .i64 (kf + 1 + kt)] rfl HSr rfl (by simp [Value.oneCell']) (by have := HYL.out; omega) (by have := HYL.out; omega) ?_
              intro ga cap w' h1 h2 h3
              have YC := YB.fr h2 (fun hm => by have := H.out.own.nf _ (by simpa using hm); omega) (fun hm => by have := ownsRow_lt H.out.own.fas (by simpa using hm); omega)
              refine hK _ _ YC ?_
              clear hK K
              try simp only [Act.put, List.setIfInBounds_toArray, List.set_cons_succ, List.set_cons_zero]
              refine fin_take (v := ?_) rfl rfl rfl rfl YC (fun w hS => ?_) ?_
              rotate_left
              (focus (go_simp; rfl))
              try simp only [List.setIfInBounds_toArray, List.set_cons_succ, List.set_cons_zero]
              have t1 : w'.cell? ⟨w.heap.size + 1 + 1, 2, none⟩ = some ((.slice af fs.length pf)) := cell_of_blk YC.1 2
              have t2 := free_of_blk YC.1 2
              refine fin_last (o := ⟨none, _, _, _, _, _⟩) rfl rfl rfl (fun K hK => ?_)
              go_simp
              try go_upon
              try go_simp
              refine hK _ _ ?_
              clear hK K
              have HM := Lib.hid (H.out.putFa (y := ⟨gv, pv, fv, fv + 1 + tv, kf, kf + 1 + kt⟩) FB h1 rfl rfl h2 h3 ⟨bg, bp, ⟨bf.1, by show fv < fv + 1 + tv; omega, by show fv + 1 + tv ≤ 100; omega⟩, ⟨bkf.1, by show kf < kf + 1 + kt; omega, by show kf + 1 + kt ≤ 100; omega⟩⟩ (by have := HYL.out; show fs.length < 8; omega))
              clear t1 t2 YB YC h1 h2 h3 HSr FB
              go_wp2_with fail
              go_roundw
              case rel => exact ⟨k + 1, _, fs ++ [⟨gv, pv, fv, fv + 1 + tv, kf, kf + 1 + kt⟩], by omega, by omega, by go_num, by simp [HYL.out], HM⟩
              case measure => simp [intOf]; omega
            · go_wp2_with fail
              go_meet
              case rel => exact ⟨_, _, H⟩
          · go_wp2_with fail
            go_meet
            case rel => exact ⟨_, _, H⟩
      case rest =>
        obtain ⟨vf, fs, H⟩ := hcut
        obtain ⟨af, pf, rfl⟩ := (sl_of_row H.out.own.fas).val
        have c30 := cell_of_blk H.out.box 0
        have c31 := cell_of_blk H.out.box 1
        have c32 := cell_of_blk H.out.box 2
        have e0 : wc.cell? ⟨w.heap.size + 1, 0, none⟩ = some (.slice none 0 0) := cell_of_blk H.out.b2 0
        have e1 : wc.cell? ⟨w.heap.size + 1, 1, none⟩ = some (.slice none 0 0) := cell_of_blk H.out.b2 1
        have e2 : wc.cell? ⟨w.heap.size + 1, 2, none⟩ = some (.slice none 0 0) := cell_of_blk H.out.b2 2
        have g0 := free_of_blk H.out.b2 0
        have g1 := free_of_blk H.out.b2 1
        have g2 := free_of_blk H.out.b2 2
        have B0 := heap_setCell_same (i := 0) (.slice ac ys.length pc) H.out.b2
        have B1 := heap_setCell_same (i := 1) (.slice ar rs.length pr) B0
        have B2 := heap_setCell_same (i := 2) (.slice af fs.length pf) B1
        have hF : Fr [w.heap.size + 1] wc (((wc.setCell ⟨w.heap.size + 1, 0, none⟩ (.slice ac ys.length pc)).setCell ⟨w.heap.size + 1, 1, none⟩ (.slice ar rs.length pr)).setCell ⟨w.heap.size + 1, 2, none⟩ (.slice af fs.length pf)) := ((Fr.setCell _ _ (by simp)).trans (Fr.setCell _ _ (by simp))).trans (Fr.setCell _ _ (by simp))
        have HB := Lib.hid B2
        have HF := Lib.hid hF
        clear B0 B1 B2 hF
        go_wp2_with fail
        have k0 : (((wc.setCell ⟨w.heap.size + 1, 0, none⟩ (.slice ac ys.length pc)).setCell ⟨w.heap.size + 1, 1, none⟩ (.slice ar rs.length pr)).setCell ⟨w.heap.size + 1, 2, none⟩ (.slice af fs.length pf)).cell? ⟨w.heap.size + 1, 0, none⟩ = some (.slice ac ys.length pc) := cell_of_blk HB.out 0
        have k1 : (((wc.setCell ⟨w.heap.size + 1, 0, none⟩ (.slice ac ys.length pc)).setCell ⟨w.heap.size + 1, 1, none⟩ (.slice ar rs.length pr)).setCell ⟨w.heap.size + 1, 2, none⟩ (.slice af fs.length pf)).cell? ⟨w.heap.size + 1, 1, none⟩ = some (.slice ar rs.length pr) := cell_of_blk HB.out 1
        have k2 : (((wc.setCell ⟨w.heap.size + 1, 0, none⟩ (.slice ac ys.length pc)).setCell ⟨w.heap.size + 1, 1, none⟩ (.slice ar rs.length pr)).setCell ⟨w.heap.size + 1, 2, none⟩ (.slice af fs.length pf)).cell? ⟨w.heap.size + 1, 2, none⟩ = some (.slice af fs.length pf) := cell_of_blk HB.out 2
        generalize (((wc.setCell ⟨w.heap.size + 1, 0, none⟩ (.slice ac ys.length pc)).setCell ⟨w.heap.size + 1, 1, none⟩ (.slice ar rs.length pr)).setCell ⟨w.heap.size + 1, 2, none⟩ (.slice af fs.length pf)) = W3 at k0 k1 k2 HB HF ⊢
        clear e0 e1 e2 g0 g1 g2 c30 c31 c32
        try simp only [Exit.inBlock, Exit.then]
        refine bodyPost_ret (by simp [results, Tryz.results6, go_sem, k0, k1, k2]; try rfl) rfl ?_
        have hA := H.out.all.step HF.out (fun i hi => .inr (by simp at hi; omega))
        have hO := H.out.own.fr HF.out (fun g hg => by simp at hg; omega)
        first
        | exact ⟨hA, _, _, _, ys, ⟨ys.map (·.x), rs, fs⟩, rfl, H.out.ok, hO⟩
        | exact ⟨hA, _, _, _, rfl, ys, ⟨ys.map (·.x), rs, fs⟩, H.out.ok, hO⟩
        | exact ⟨hA, _, _, _, rfl, ⟨ys.map (·.x), rs, fs⟩, H.out.ok, ys, hO⟩

end Go.Proofs.YtahfpadaoobkfaaGreatDoor
