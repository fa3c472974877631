/-
  The walk of StatuteOne.
-/
import Derived.Test.YtljdenoheflkoaaL8h
namespace Go.Proofs.Ytljdenoheflkoaa
open Go.ChangeShapes Go.WideShapes Go.ChangeAt Go.RowKit Go.Deep Go.Lib

set_option maxRecDepth 1000000 in
set_option maxHeartbeats 1000000 in
theorem one_c (v1 v2 v3 vl : Value) (n1 n2 n3 : Nat) (is1 is2 is3 : List Int) (qa qb qc qd ha1 ha2 na1 na2 ta1 ta2 : Int) (lz : List Fd) (w : World) (h1 : NumAt w v1 n1 6 is1) (h2 : NumAt w v2 n2 3 is2) (h3 : NumAt w v3 n3 6 is3) (ha : I64 qa) (hb : I64 qb) (hc : I64 qc) (hd : I64 qd)
    (hh1 : I64 ha1) (hh2 : I64 ha2) (ht1 : I64 ta1) (ht2 : I64 ta2) (hz : Sl w vl lz.length (lz.flatMap fdC)) :
    Calls Try.prog 3 #[.agg #[v1, v2, v3], .agg #[.int .i64 qa, .int .i64 qb, .int .i64 qc, .int .i64 qd], .agg #[.int .i64 ha1, .int .i64 ha2], .agg #[.int .i64 na1, .int .i64 na2], .agg #[.int .i64 ta1, .int .i64 ta2], vl] w fun e w' => e = .returned (.bool true) ∧ Below w.heap.size w w' := by
  obtain ⟨az, pz, rfl⟩ := hz.val
  have hzl := hz.len
  have HZ := Lib.hid hz
  clear hz
  obtain ⟨a1, p1, rfl⟩ := h1.sl.val
  obtain ⟨a2, p2, rfl⟩ := h2.sl.val
  obtain ⟨a3, p3, rfl⟩ := h3.sl.val
  have HA := Lib.hid (allocs_at [.cells #[.slice a1 n1 p1, .slice a2 n2 p2, .slice a3 n3 p3] 25, .cells #[.int .i64 qa, .int .i64 qb, .int .i64 qc, .int .i64 qd] 26, .cells #[.int .i64 ha1, .int .i64 ha2] 27, .cells #[.int .i64 na1, .int .i64 na2] 27, .cells #[.int .i64 ta1, .int .i64 ta2] 27] w)
  have FA : Hid (Fr [] w _) := Lib.hid (allocs_fr [.cells #[.slice a1 n1 p1, .slice a2 n2 p2, .slice a3 n3 p3] 25, .cells #[.int .i64 qa, .int .i64 qb, .int .i64 qc, .int .i64 qd] 26, .cells #[.int .i64 ha1, .int .i64 ha2] 27, .cells #[.int .i64 na1, .int .i64 na2] 27, .cells #[.int .i64 ta1, .int .i64 ta2] 27] w)
  have H1 := Lib.hid h1; have H2 := Lib.hid h2; have H3 := Lib.hid h3
  have CQ := Lib.hid fun W => ask_c qa qb qc qd W ha hb hc hd
  have QM := Lib.hid (askQ_m qa qb qc qd)
  have HQ : Hid (askQ qa qb qc qd = ⟨pickI qa 3, pickI qb 8, pickI qc 100, pickI qd 100⟩) := Lib.hid rfl
  rw [HQ.out] at QM
  generalize pickI qa 3 = x0 at *
  generalize pickI qb 8 = x1 at *
  generalize pickI qc 100 = x2 at *
  generalize pickI qd 100 = x3 at *
  clear h1 h2 h3 ha hb hc hd HQ
  go_enter Try.func3, Try.ntmps3
  go_wp2_with fail
  refine (sane8_c _).mono ?_
  rintro e w1 ⟨rfl, f1⟩
  have B1 : w1.heap[w.heap.size]? = _ := f1.keep (HA.out 0 (by simp)) (by simp)
  have B2 : w1.heap[w.heap.size + 1]? = _ := f1.keep (HA.out 1 (by simp)) (by simp)
  have X1 : w1.heap[w.heap.size + 1 + 1]? = _ := f1.keep (HA.out 2 (by simp)) (by simp)
  have X2 : w1.heap[w.heap.size + 1 + 1 + 1]? = _ := f1.keep (HA.out 3 (by simp)) (by simp)
  have X3 : w1.heap[w.heap.size + 1 + 1 + 1 + 1]? = _ := f1.keep (HA.out 4 (by simp)) (by simp)
  have F1 := Lib.hid (FA.out.trans f1)
  have HX := Lib.hid (And.intro X1 (And.intro X2 X3))
  clear f1 HA FA X1 X2 X3
  have c0 := cell_of_blk B1 0; have c1 := cell_of_blk B1 1; have c2 := cell_of_blk B1 2
  have CM := Lib.hid (made_c _ _ _ n1 n2 n3 is1 is2 is3 w1 (H1.out.same F1.out) (H2.out.same F1.out) (H3.out.same F1.out))
  have HB2 := Lib.hid B2
  clear B1 B2
  go_wp2_with fail
  refine CM.out.mono ?_
  rintro e w2 ⟨f2, vc, vr, vf, ys, c, rfl, hm, ho⟩
  clear c0 c1 c2 CM
  obtain ⟨ac, pc, rfl⟩ := (sl_of_row ho.cls).val
  obtain ⟨ar, pr, rfl⟩ := (sl_of_row ho.rps).val
  obtain ⟨af, pf, rfl⟩ := (sl_of_row ho.fas).val
  have B2 := f2.keep HB2.out (by simp)
  have hb2 := blk_lt B2
  have c0 := cell_of_blk B2 0; have c1 := cell_of_blk B2 1; have c2 := cell_of_blk B2 2; have c3 := cell_of_blk B2 3
  have HX2 := Lib.hid (And.intro (f2.keep HX.out.1 (by simp)) (And.intro (f2.keep HX.out.2.1 (by simp)) (f2.keep HX.out.2.2 (by simp))))
  have F2 := Lib.hid (F1.out.trans f2); have HM := Lib.hid hm; have HO := Lib.hid (ho.older (N' := w.heap.size + 3) (by have := F1.out.size; omega))
  clear f2 hm ho B2
  go_wp2_with fail
  refine (CQ.out _).mono ?_
  rintro e w3 ⟨rfl, f3⟩
  clear c0 c1 c2 c3
  have HX3 := Lib.hid (And.intro (f3.keep (heap_alloc_old _ HX2.out.1) (by simp)) (And.intro (f3.keep (heap_alloc_old _ HX2.out.2.1) (by simp)) (f3.keep (heap_alloc_old _ HX2.out.2.2) (by simp))))
  have L0 : Hid (LawSt w w2.heap.size w3.heap.size (.slice ac ys.length pc) (.slice ar c.rps.length pr) (.slice af c.fas.length pf) ys c ⟨x0, x1, x2, x3⟩ (w3.alloc (.cells #[.int .i64 x0, .int .i64 x1, .int .i64 x2, .int .i64 x3] 37))) := Lib.hid ⟨((F2.out.trans (Fr.alloc _ _ _)).trans f3).trans (Fr.alloc _ _ _), heap_alloc_old _ (f3.keep (heap_alloc_new _ _) (by simp)), heap_alloc_new _ _, (HO.out.same ((Fr.alloc _ _ _).trans f3)).same (Fr.alloc _ _ _), HM.out, ok_of HM.out QM.out⟩
  obtain ⟨a, ea⟩ : ∃ a, decideA c ⟨x0, x1, x2, x3⟩ = a := ⟨_, rfl⟩
  obtain ⟨l, el⟩ : ∃ l, decideL c ⟨x0, x1, x2, x3⟩ = l := ⟨_, rfl⟩
  have CD := Lib.hid (decide_ok L0.out.at_ L0.out.ok a l ea el)
  have EA := Lib.hid ea; have EL := Lib.hid el
  have hl := decide_len L0.out.ok
  rw [el] at hl
  have SP : Hid (∀ z, checkB c ⟨x0, x1, x2, x3⟩ (!a) z = false) := Lib.hid fun z => by rw [← ea]; exact check_other z
  have SD : Hid (checkB c ⟨x0, x1, x2, x3⟩ a l = true) := Lib.hid (by rw [← ea, ← el]; exact decide_checks L0.out.ok)
  have hs23 : w2.heap.size < w3.heap.size := by have := f3.size; simp at this; omega
  have d0 : w3.cell? ⟨w2.heap.size, 0, none⟩ = _ := cell_of_blk (f3.keep (heap_alloc_new _ _) (by simp)) 0
  have d1 : w3.cell? ⟨w2.heap.size, 1, none⟩ = _ := cell_of_blk (f3.keep (heap_alloc_new _ _) (by simp)) 1
  have d2 : w3.cell? ⟨w2.heap.size, 2, none⟩ = _ := cell_of_blk (f3.keep (heap_alloc_new _ _) (by simp)) 2
  clear ea el f3 hb2 HO F2 F1 HB2
  unfold rbV qnV at CD
  simp only at CD
  go_wp2_with fail
  refine CD.out.mono ?_
  rintro e w4 ⟨f4, v, rfl, hr, hn⟩
  clear d0 d1 d2 CD
  have L4 := Lib.hid (L0.out.same f4)
  have HX4 := Lib.hid (And.intro (f4.keep (heap_alloc_old _ HX3.out.1) (by simp)) (And.intro (f4.keep (heap_alloc_old _ HX3.out.2.1) (by simp)) (f4.keep (heap_alloc_old _ HX3.out.2.2) (by simp))))
  obtain ⟨va, vp, rfl⟩ := (sl_of_row hr).val
  have HR := Lib.hid hr
  have C4 := Lib.hid (L4.out.check _ l a true (sl_of_row hr) SD.out)
  obtain ⟨⟨d0, d1, d2⟩, e0, e1, e2, e3⟩ := L4.out.cells
  clear L0 f4 hr hn hs23 HX3 HX2
  obtain ⟨hl0, hl20⟩ := hl
  go_wp2_with fail
  refine C4.out.mono ?_
  rintro e w5 ⟨rfl, f5⟩
  clear d0 d1 d2 e0 e1 e2 e3 C4
  have L5 := Lib.hid (L4.out.same f5)
  have R5 := Lib.hid (row_fr HR.out f5 (by simp))
  have HX5 := Lib.hid (And.intro (f5.keep HX4.out.1 (by simp)) (And.intro (f5.keep HX4.out.2.1 (by simp)) (f5.keep HX4.out.2.2 (by simp))))
  have g0 := cell_of_blk HX5.out.1 0
  have g1 := cell_of_blk HX5.out.2.1 0
  have g2 := cell_of_blk HX5.out.2.2 0
  have C5 := Lib.hid (bent_c _ l ha1 na1 ta1 w5 (srcAt_of_row R5.out) (by omega) hh1 ht1)
  clear f5 L4 HR HX4
  go_wp2_with fail
  refine C5.out.mono ?_
  rintro e w6 ⟨f6, v6, l6, rfl, hF6, hl6⟩
  clear g0 g1 g2 C5
  obtain ⟨a6, p6, rfl⟩ := hF6.sl.val
  have L6 := Lib.hid (L5.out.same f6)
  have R6 := Lib.hid (row_fr R5.out f6 (by simp))
  have HX6 := Lib.hid (And.intro (f6.keep HX5.out.1 (by simp)) (And.intro (f6.keep HX5.out.2.1 (by simp)) (f6.keep HX5.out.2.2 (by simp))))
  have g0 := cell_of_blk HX6.out.1 1
  have g1 := cell_of_blk HX6.out.2.1 1
  have g2 := cell_of_blk HX6.out.2.2 1
  have C6 := Lib.hid (bent_c _ l6 ha2 na2 ta2 w6 hF6.src (by omega) hh2 ht2)
  have T6 := Lib.hid hF6
  clear f6 L5 R5 HX5 hF6
  go_wp2_with fail
  refine C6.out.mono ?_
  rintro e w7 ⟨f7, v7, l7, rfl, hF7, hl7⟩
  clear g0 g1 g2 C6
  obtain ⟨a7, p7, rfl⟩ := hF7.sl.val
  have L7 := Lib.hid (L6.out.same f7)
  have R7 := Lib.hid (row_fr R6.out f7 (by simp))
  have T7 := Lib.hid (T6.out.same f7)
  have S7 := Lib.hid hF7
  have Z7 := Lib.hid (HZ.out.same L7.out.fr)
  clear f7 L6 R6 T6 HX6 hF7 HZ
  obtain ⟨m, hm⟩ : ∃ m, min lz.length 8 = m := ⟨_, rfl⟩
  have hm1 : m ≤ lz.length := by omega
  have hpz : lz.length ≤ pz := by
    obtain ⟨_, _, hv, h1, _⟩ := Z7.out
    cases hv; exact h1
  have hm2 : m ≤ pz := by omega
  have hmi : min (lz.length : Int) 8 = (m : Int) := by omega
  have hmi2 : (if (lz.length : Int) ≤ 8 then (lz.length : Int) else 8) = (m : Int) := by split <;> omega
  clear hm
  go_wp2_with fail
  clear hmi hmi2
  have hbl : (w7.alloc (.cells #[.slice va l.length vp, .slice a6 l6.length p6, .slice a7 l7.length p7, .slice az m pz] 28)).heap[w7.heap.size]? = _ := heap_alloc_new _ _
  have FB := Fr.alloc [] w7 (.cells #[.slice va l.length vp, .slice a6 l6.length p6, .slice a7 l7.length p7, .slice az m pz] 28)
  generalize w7.alloc (.cells #[.slice va l.length vp, .slice a6 l6.length p6, .slice a7 l7.length p7, .slice az m pz] 28) = W8 at *
  have L8 := Lib.hid (L7.out.same FB)
  have hlm : (lz.take m).length = m := by simp; omega
  have key : ∀ k, k < 4 → ∃ zv zl zn zp, W8.cell? ⟨w7.heap.size, k, none⟩ = some (.slice zv zn zp) ∧ Sl W8 (.slice zv zn zp) zl.length (List.flatMap fdC zl) := by
    intro k hk
    rw [cell_of_blk hbl]
    match k, hk with
    | 0, _ => exact ⟨va, l, _, vp, rfl, (sl_of_row R7.out).same FB⟩
    | 1, _ => exact ⟨a6, l6, _, p6, rfl, (T7.out.same FB).sl⟩
    | 2, _ => exact ⟨a7, l7, _, p7, rfl, (S7.out.same FB).sl⟩
    | 3, _ =>
      refine ⟨az, lz.take m, _, pz, rfl, ?_⟩
      rw [hlm, flat_take]
      obtain ⟨_, _, hv, h1, h2, h3⟩ := Z7.out.same FB
      cases hv
      refine ⟨_, _, rfl, hm2, h2, fun h0 => ?_⟩
      obtain ⟨b, off, hb, hc⟩ := h3 (by omega)
      exact ⟨b, off, hb, fun j u hu => hc j u (by rw [List.getElem?_take] at hu; split at hu; exact hu; cases hu)⟩
  have HK := Lib.hid key
  clear key hbl FB L7 R7 T7 S7 Z7 hlm
  go_loopw [71] (fun i wr => ∃ k : Nat, k ≤ 4 ∧ i = .int .i64 k ∧ Hid (Fr [] W8 wr)) (fun i _ => 4 - (intOf i).toNat)
  case atStart => exact ⟨0, by omega, rfl, Lib.hid (Fr.refl _ _)⟩
  case round =>
    obtain ⟨k, hk, rfl, F8⟩ := hrel
    by_cases hlt : k < 4
    · obtain ⟨zv, zl, zn, zp, hcell, hzs⟩ := HK.out k hlt
      have hc : wr.cell? ⟨w7.heap.size, k, none⟩ = some (.slice zv zn zp) := (World.cell?_of_block (F8.out.block _ (World.block_lt_of_cell? W8 _ hcell) (by simp))).trans hcell
      have LR := Lib.hid (L8.out.same F8.out)
      have CR := Lib.hid (LR.out.check _ zl (!a) false (hzs.same F8.out) (SP.out zl))
      obtain ⟨⟨d0, d1, d2⟩, e0, e1, e2, e3⟩ := LR.out.cells
      clear hcell hzs
      go_wp2_with fail
      refine CR.out.mono ?_
      rintro e w9 ⟨rfl, f9⟩
      have F9 := Lib.hid (F8.out.trans f9)
      clear d0 d1 d2 e0 e1 e2 e3 CR f9 hc
      go_wp2_with fail
      go_roundw
      case rel => exact ⟨k + 1, by omega, by go_num, F9⟩
      case measure => simp [intOf]; omega
    · obtain rfl : k = 4 := by omega
      go_wp2_with fail
      go_ret
      exact ⟨rfl, (L8.out.fr.trans F8.out).below⟩

set_option maxRecDepth 100000 in
theorem open_fds {H : Type} {enc : TypeId × Value → H} {W : World} {base : Nat} {v : Value} {d : DataW H} {p : List MemPlace} (k : Value.okWide Try.prog W .any base 28 v) (h : DataW.Trod enc Try.prog W 0 (fun _ => true) true 28 v d p) :
    ∃ l : List Fd, Sl W v l.length (l.flatMap fdC) := by
  obtain ⟨a, len, cap, rfl⟩ := okWide_slice Try.underlying28 k
  obtain ⟨fuel, hf⟩ := h
  exact fds_of_trod (by simpa [Value.cells] using hf)

set_option maxRecDepth 100000 in
theorem walk_StatuteOne {H : Type} {enc : TypeId × Value → H} {base : Nat} (W : World) {v0 v1 v2 v3 v4 v5 : Value} {d0 d1 d2 d3 d4 d5 : DataW H} {p0 p1 p2 p3 p4 p5 : List MemPlace} (k0 : Value.okWide Try.prog W .any base 25 v0) (h0 : DataW.Trod enc Try.prog W 0 (fun _ => true) true 25 v0 d0 p0) (k1 : Value.okWide Try.prog W .any base 26 v1) (h1 : DataW.Trod enc Try.prog W 0 (fun _ => true) true 26 v1 d1 p1)
    (k2 : Value.okWide Try.prog W .any base 27 v2) (h2 : DataW.Trod enc Try.prog W 0 (fun _ => true) true 27 v2 d2 p2) (k3 : Value.okWide Try.prog W .any base 27 v3) (h3 : DataW.Trod enc Try.prog W 0 (fun _ => true) true 27 v3 d3 p3) (k4 : Value.okWide Try.prog W .any base 27 v4) (h4 : DataW.Trod enc Try.prog W 0 (fun _ => true) true 27 v4 d4 p4)
    (k5 : Value.okWide Try.prog W .any base 28 v5) (h5 : DataW.Trod enc Try.prog W 0 (fun _ => true) true 28 v5 d5 p5) :
    Calls Try.prog 3 #[v0, v1, v2, v3, v4, v5] W fun e W' => e = .returned (.bool true) ∧ Below W.heap.size W W' := by
  obtain ⟨_, _, _, n1, n2, n3, is1, is2, is3, rfl, a1, a2, a3⟩ := open_numbers k0 h0
  obtain ⟨a, b, c, d, rfl, ha, hb, hc, hd⟩ := open_i4 k1 h1
  obtain ⟨x1, x2, rfl, i1, i2⟩ := open_i2 k2 h2
  obtain ⟨y1, y2, rfl, _, _⟩ := open_i2 k3 h3
  obtain ⟨z1, z2, rfl, j1, j2⟩ := open_i2 k4 h4
  obtain ⟨l, hl⟩ := open_fds k5 h5
  exact one_c _ _ _ _ n1 n2 n3 is1 is2 is3 a b c d x1 x2 y1 y2 z1 z2 l W a1 a2 a3 ha hb hc hd i1 i2 j1 j2 hl

end Go.Proofs.Ytljdenoheflkoaa
