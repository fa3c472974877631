/-
  The walk of FilterTurned.
-/
import Derived.Test.YtkopnooajikpmaaGreatQFlL
namespace Go.Proofs.YtkopnooajikpmaaGreat
open Go.ChangeShapes Go.WideShapes Go.ChangeAt Go.RowKit Go.Deep Go.Lib

def alF (k l h : Int) (n : Bool) : Fl := ⟨[⟨[⟨k, l, h, n⟩], 2⟩, ⟨[⟨k, l, h, !n⟩], 2⟩, ⟨[], 2⟩], 1⟩
def alY (b1 b2 : Nat) (k l h : Int) (n : Bool) : List RuV := [⟨⟨[⟨k, l, h, n⟩], 2⟩, .slice (some ⟨b1, 0, none⟩) 1 1⟩, ⟨⟨[⟨k, l, h, !n⟩], 2⟩, .slice (some ⟨b2, 0, none⟩) 1 1⟩, ⟨⟨[], 2⟩, .slice none 0 0⟩]
theorem al_b {k l h : Int} {n : Bool} (hx : cdB ⟨k, l, h, n⟩ = true) : flB (alF k l h n) = true := by
  have hx2 : cdB ⟨k, l, h, !n⟩ = true := cdB_neg k l h n (!n) hx
  unfold flB alF
  simp only [List.all_cons, List.all_nil, Bool.and_true, ruB, hx, hx2]
  rfl
theorem al_at {W : World} {b1 b2 br : Nat} {k l h : Int} {n : Bool} (hok : CdOk ⟨k, l, h, n⟩) (h1 : W.heap[b1]? = some (.cells #[.int .i64 k, .int .i64 l, .int .i64 h, .bool n] 93 (0, 0))) (h2 : W.heap[b2]? = some (.cells #[.int .i64 k, .int .i64 l, .int .i64 h, .bool (!n)] 93 (0, 0)))
    (h3 : W.heap[br]? = some (.cells #[.slice (some ⟨b1, 0, none⟩) 1 1, .int .i64 2, .slice (some ⟨b2, 0, none⟩) 1 1, .int .i64 2, .slice none 0 0, .int .i64 2] 82 (0, 0))) : FlAt W (.slice (some ⟨br, 0, none⟩) 3 3) (alY b1 b2 k l h n) (alF k l h n) := by
  refine ⟨rfl, sl_blk h3 rfl (by omega) (by omega), fun y hy => ?_, fun y hy => ?_, by constructor <;> simp [alF]⟩
  · simp only [alY, List.mem_cons, List.not_mem_nil, or_false] at hy
    rcases hy with rfl | rfl | rfl
    · exact sl_blk h1 rfl (by omega) (by omega)
    · exact sl_blk h2 rfl (by omega) (by omega)
    · exact Sl.nil _
  · simp only [alY, List.mem_cons, List.not_mem_nil, or_false] at hy
    rcases hy with rfl | rfl | rfl
    · refine ⟨by constructor <;> simp, fun x hx => ?_⟩
      rw [List.mem_singleton] at hx; subst hx; exact hok
    · refine ⟨by constructor <;> simp, fun x hx => ?_⟩
      rw [List.mem_singleton] at hx; subst hx; exact ⟨hok.kind, hok.lo, hok.hi⟩
    · exact ⟨by constructor <;> simp, fun x hx => by cases hx⟩
theorem lw_m {w W : World} {bF bR bC : Nat} {v vc vr vf : Value} {ys : List RuV} {dfl : Int} {zs : List ClV} {b : Rb} {ca cd at_ lv fw : Int} {M : Bool} (k : Nat) (hk : k < ys.length) (hM : mB b ⟨ca, cd, at_, lv, fw, false⟩ ys[k].x = M) (h : LwS w bF bR bC v ys dfl vc vr vf zs b ⟨ca, cd, at_, lv, fw, false⟩ W) :
    Calls Tryz.prog 34 #[.agg #[v, .int .i64 dfl], .agg #[vc, vr, vf], .agg #[.int .i64 ca, .int .i64 cd, .int .i64 at_, .int .i64 lv, .int .i64 fw, .bool false], .int .i64 k] W fun e w' => e = .returned (.tuple #[.bool M, .int .i64 0]) ∧ Fr [] W w' := by
  have := fMatches_c v ys (flOf ys dfl) _ _ _ zs b _ k hk W h.flAt h.rbAt h.cok h.good
  rw [hM] at this
  exact this
section
variable {W : World} {v vc vr vf : Value} {b1 b2 : Nat} {k l h : Int} {n hb : Bool} {zs : List ClV} {b : Rb} {ca cd at_ lv fw : Int}
theorem al_m0 (hf : FlAt W v (alY b1 b2 k l h n) (alF k l h n)) (hr : RbAt W vc vr vf zs b) (hc : CaOk ⟨ca, cd, at_, lv, fw, false⟩) (hg : goodF (alF k l h n) b ⟨ca, cd, at_, lv, fw, false⟩ = true) (hh : holdsF b ⟨ca, cd, at_, lv, fw, false⟩ ⟨k, l, h, n⟩ = hb) :
    Calls Tryz.prog 34 #[.agg #[v, .int .i64 1], .agg #[vc, vr, vf], .agg #[.int .i64 ca, .int .i64 cd, .int .i64 at_, .int .i64 lv, .int .i64 fw, .bool false], .int .i64 0] W fun e w' => e = .returned (.tuple #[.bool hb, .int .i64 0]) ∧ Fr [] W w' := by
  have := fMatches_c v _ _ vc vr vf zs b _ 0 (by simp [alY]) W hf hr hc hg
  simp only [alY, List.getElem_cons_zero, mB, List.all_cons, List.all_nil, Bool.and_true, hh] at this
  exact this
theorem al_m1 (hf : FlAt W v (alY b1 b2 k l h n) (alF k l h n)) (hr : RbAt W vc vr vf zs b) (hc : CaOk ⟨ca, cd, at_, lv, fw, false⟩) (hg : goodF (alF k l h n) b ⟨ca, cd, at_, lv, fw, false⟩ = true) (hh : holdsF b ⟨ca, cd, at_, lv, fw, false⟩ ⟨k, l, h, n⟩ = hb) :
    Calls Tryz.prog 34 #[.agg #[v, .int .i64 1], .agg #[vc, vr, vf], .agg #[.int .i64 ca, .int .i64 cd, .int .i64 at_, .int .i64 lv, .int .i64 fw, .bool false], .int .i64 1] W fun e w' => e = .returned (.tuple #[.bool (!hb), .int .i64 0]) ∧ Fr [] W w' := by
  have := fMatches_c v _ _ vc vr vf zs b _ 1 (by simp [alY]) W hf hr hc hg
  simp only [alY, List.getElem_cons_succ, List.getElem_cons_zero, mB, List.all_cons, List.all_nil, Bool.and_true, holds_neg, hh] at this
  exact this
theorem al_m2 (hf : FlAt W v (alY b1 b2 k l h n) (alF k l h n)) (hr : RbAt W vc vr vf zs b) (hc : CaOk ⟨ca, cd, at_, lv, fw, false⟩) (hg : goodF (alF k l h n) b ⟨ca, cd, at_, lv, fw, false⟩ = true) :
    Calls Tryz.prog 34 #[.agg #[v, .int .i64 1], .agg #[vc, vr, vf], .agg #[.int .i64 ca, .int .i64 cd, .int .i64 at_, .int .i64 lv, .int .i64 fw, .bool false], .int .i64 2] W fun e w' => e = .returned (.tuple #[.bool true, .int .i64 0]) ∧ Fr [] W w' := by
  have := fMatches_c v _ _ vc vr vf zs b _ 2 (by simp [alY]) W hf hr hc hg
  simp only [alY, List.getElem_cons_succ, List.getElem_cons_zero, mB, List.all_nil] at this
  exact this
end
abbrev ptW (w : World) (k l h : Int) (n : Bool) : World := ((w.alloc (.cells #[.int .i64 k, .int .i64 l, .int .i64 h, .bool n] 93)).alloc (.cells #[.slice (some ⟨w.heap.size, 0, none⟩) 1 1, .int .i64 2] 82)).alloc (.cells #[.slice (some ⟨w.heap.size + 1, 0, none⟩) 1 1, .int .i64 1] 65)
theorem pt_at {w : World} {k l h : Int} {n : Bool} (hok : CdOk ⟨k, l, h, n⟩) : Fr [] w (ptW w k l h n) ∧ (ptW w k l h n).heap[w.heap.size + 1 + 1]? = some (.cells #[.slice (some ⟨w.heap.size + 1, 0, none⟩) 1 1, .int .i64 1] 65 (0, 0)) ∧ FlAt (ptW w k l h n) (.slice (some ⟨w.heap.size + 1, 0, none⟩) 1 1) [⟨⟨[⟨k, l, h, n⟩], 2⟩, .slice (some ⟨w.heap.size, 0, none⟩) 1 1⟩] ⟨[⟨[⟨k, l, h, n⟩], 2⟩], 1⟩ := by
  have hA := alloc3' w (.cells #[.int .i64 k, .int .i64 l, .int .i64 h, .bool n] 93) (.cells #[.slice (some ⟨w.heap.size, 0, none⟩) 1 1, .int .i64 2] 82) (.cells #[.slice (some ⟨w.heap.size + 1, 0, none⟩) 1 1, .int .i64 1] 65)
  refine ⟨((Fr.alloc _ _ _).trans (Fr.alloc _ _ _)).trans (Fr.alloc _ _ _), hA.2.2, rfl, sl_blk hA.2.1 rfl (by omega) (by omega), fun y hy => ?_, fun y hy => ?_, by constructor <;> simp⟩
  · rw [List.mem_singleton] at hy; subst hy
    exact sl_blk hA.1 rfl (by omega) (by omega)
  · rw [List.mem_singleton] at hy; subst hy
    refine ⟨by constructor <;> simp, fun x hx => ?_⟩
    rw [List.mem_singleton] at hx; subst hx; exact hok
theorem pt_b {k l h : Int} {n : Bool} (hx : cdB ⟨k, l, h, n⟩ = true) : flB ⟨[⟨[⟨k, l, h, n⟩], 2⟩], 1⟩ = true := by
  unfold flB
  simp only [List.all_cons, List.all_nil, Bool.and_true, ruB, hx]
  rfl
theorem pt_m {W : World} {v vc vr vf u : Value} {k l h : Int} {n hb : Bool} {zs : List ClV} {b : Rb} {ca cd at_ lv fw : Int} (hf : FlAt W v [⟨⟨[⟨k, l, h, n⟩], 2⟩, u⟩] ⟨[⟨[⟨k, l, h, n⟩], 2⟩], 1⟩) (hr : RbAt W vc vr vf zs b) (hc : CaOk ⟨ca, cd, at_, lv, fw, false⟩) (hg : goodF ⟨[⟨[⟨k, l, h, n⟩], 2⟩], 1⟩ b ⟨ca, cd, at_, lv, fw, false⟩ = true) (hh : holdsF b ⟨ca, cd, at_, lv, fw, false⟩ ⟨k, l, h, n⟩ = hb) :
    Calls Tryz.prog 34 #[.agg #[v, .int .i64 1], .agg #[vc, vr, vf], .agg #[.int .i64 ca, .int .i64 cd, .int .i64 at_, .int .i64 lv, .int .i64 fw, .bool false], .int .i64 0] W fun e w' => e = .returned (.tuple #[.bool hb, .int .i64 0]) ∧ Fr [] W w' := by
  have := fMatches_c v _ _ vc vr vf zs b _ 0 (by simp) W hf hr hc hg
  simp only [List.getElem_cons_zero, mB, List.all_cons, List.all_nil, Bool.and_true, hh] at this
  exact this

set_option maxRecDepth 1000000 in
set_option maxHeartbeats 4000000 in
theorem turned_c (vx vm v1 v2 v3 : Value) (nx n1 n2 n3 : Nat) (xs ms is1 is2 is3 : List Int) (fb qa qb qc qd qe : Int) (which za zb zc zd : Int) (w : World) (hx : NumAt w vx nx 12 xs) (hm : IntsAt w vm ms) (hmi : ∀ z, z ∈ ms → I64 z) (hfb : I64 fb) (h1 : NumAt w v1 n1 6 is1) (h2 : NumAt w v2 n2 3 is2) (h3 : NumAt w v3 n3 6 is3) (hqa : I64 qa) (hqb : I64 qb) (hqc : I64 qc) (hqd : I64 qd) (hqe : I64 qe) (hw : I64 which) (hza : I64 za) (hzb : I64 zb) (hzc : I64 zc) (hzd : I64 zd) :
    Calls Tryz.prog 8 #[vx, vm, .int .i64 fb, .agg #[v1, v2, v3], .agg #[.int .i64 qa, .int .i64 qb, .int .i64 qc, .int .i64 qd, .int .i64 qe], .int .i64 which, .agg #[.int .i64 za, .int .i64 zb, .int .i64 zc, .int .i64 zd]] w fun e w' => e = .returned (.bool true) ∧ Below w.heap.size w w' := by
  obtain ⟨ax, px, rfl⟩ := hx.sl.val
  obtain ⟨am, pm, rfl⟩ := hm.val
  obtain ⟨a1, p1, rfl⟩ := h1.sl.val
  obtain ⟨a2, p2, rfl⟩ := h2.sl.val
  obtain ⟨a3, p3, rfl⟩ := h3.sl.val
  have HA := Lib.hid (allocs_at [.cells #[.slice a1 n1 p1, .slice a2 n2 p2, .slice a3 n3 p3] 25, .cells #[.int .i64 qa, .int .i64 qb, .int .i64 qc, .int .i64 qd, .int .i64 qe] 59, .cells #[.int .i64 za, .int .i64 zb, .int .i64 zc, .int .i64 zd] 31] w)
  have FA : Hid (Fr [] w _) := Lib.hid (allocs_fr [.cells #[.slice a1 n1 p1, .slice a2 n2 p2, .slice a3 n3 p3] 25, .cells #[.int .i64 qa, .int .i64 qb, .int .i64 qc, .int .i64 qd, .int .i64 qe] 59, .cells #[.int .i64 za, .int .i64 zb, .int .i64 zc, .int .i64 zd] 31] w)
  have HX := Lib.hid hx; have HM := Lib.hid hm; have HMI := Lib.hid hmi
  have H1 := Lib.hid h1; have H2 := Lib.hid h2; have H3 := Lib.hid h3
  have CQ := Lib.hid fun W => call26_c qa qb qc qd qe W hqa hqb hqc hqd hqe
  have CQO := Lib.hid (callC_ok qa qb qc qd qe)
  have CQB := Lib.hid (callC_b qa qb qc qd qe)
  obtain ⟨ca, cd, at_, lv, fw, hcq⟩ : ∃ ca cd at_ lv fw, callC qa qb qc qd qe = ⟨ca, cd, at_, lv, fw, false⟩ := ⟨_, _, _, _, _, rfl⟩
  rw [hcq] at CQ CQO CQB
  clear hx hm hmi h1 h2 h3 hqa hqb hqc hqd hqe hcq
  go_enter Tryz.func8, Tryz.ntmps8
  go_wp2_with fail
  refine (sane26_c _).mono ?_
  rintro e w1 ⟨rfl, f1⟩
  have F1 := Lib.hid (FA.out.trans f1)
  have HZ : Hid (∀ W, Fr [] w1 W → _) := Lib.hid fun W hf => (show W.heap[w.heap.size + 1 + 1]? = some (.cells #[.int .i64 za, .int .i64 zb, .int .i64 zc, .int .i64 zd] 31) from hf.keep (f1.keep (HA.out 2 (by simp)) (by simp)) (by simp))
  have HB : Hid (∀ W, Fr [] w1 W → _) := Lib.hid fun W hf => And.intro (show W.heap[w.heap.size]? = some (.cells #[.slice a1 n1 p1, .slice a2 n2 p2, .slice a3 n3 p3] 25) from hf.keep (f1.keep (HA.out 0 (by simp)) (by simp)) (by simp)) (show W.heap[w.heap.size + 1]? = some (.cells #[.int .i64 qa, .int .i64 qb, .int .i64 qc, .int .i64 qd, .int .i64 qe] 59) from hf.keep (f1.keep (HA.out 1 (by simp)) (by simp)) (by simp))
  have CM := Lib.hid (made26_c _ _ nx xs ms fb w1 (HX.out.same F1.out) (HM.out.same F1.out) HMI.out hfb)
  clear f1
  go_wp2_with fail
  refine CM.out.mono ?_
  rintro e w2 ⟨f2, v, ys, dfl, rfl, ho, hok, hlen, hdf⟩
  obtain ⟨av, pv, rfl⟩ := (sl_of_row ho.row).val
  have LF : Hid (FlOwn w.heap.size (w2.alloc (.cells #[.slice av ys.length pv, .int .i64 dfl] 65)) (.slice av ys.length pv) ys ∧ RusOk ys ∧ ys.length ≤ 8 ∧ actB dfl = true) := Lib.hid ⟨(ho.older F1.out.size).same (Fr.alloc _ _ _), hok, hlen, hdf⟩
  have LB := Lib.hid (heap_alloc_new w2 (.cells #[.slice av ys.length pv, .int .i64 dfl] 65))
  have F2 := Lib.hid (f2.trans (Fr.alloc [] w2 (.cells #[.slice av ys.length pv, .int .i64 dfl] 65)))
  have B2 := HB.out _ F2.out
  have c0 := cell_of_blk B2.1 0; have c1 := cell_of_blk B2.1 1; have c2 := cell_of_blk B2.1 2
  have CR := Lib.hid (made_c _ _ _ n1 n2 n3 is1 is2 is3 _ (H1.out.same (F1.out.trans F2.out)) (H2.out.same (F1.out.trans F2.out)) (H3.out.same (F1.out.trans F2.out)))
  clear f2 ho hok hlen hdf CM B2
  go_wp2_with fail
  refine CR.out.mono ?_
  rintro e w3 ⟨f3, vc, vr, vf, zs, b, rfl, hmd, hro⟩
  clear c0 c1 c2 CR
  obtain ⟨ac, pc, rfl⟩ := (sl_of_row hro.cls).val
  obtain ⟨ar, pr, rfl⟩ := (sl_of_row hro.rps).val
  obtain ⟨af, pf, rfl⟩ := (sl_of_row hro.fas).val
  have F3 := Lib.hid (f3.trans (Fr.alloc [] w3 (.cells #[.slice ac zs.length pc, .slice ar b.rps.length pr, .slice af b.fas.length pf] 30)))
  have RO : Hid (RbOwn w.heap.size (w3.alloc (.cells #[.slice ac zs.length pc, .slice ar b.rps.length pr, .slice af b.fas.length pf] 30)) _ _ _ zs b ∧ MadeOk b) := Lib.hid ⟨(hro.older (by have := (F1.out.trans F2.out).size; omega)).same (Fr.alloc _ _ _), hmd⟩
  have RB := Lib.hid (heap_alloc_new w3 (.cells #[.slice ac zs.length pc, .slice ar b.rps.length pr, .slice af b.fas.length pf] 30))
  have B3 := HB.out _ (F2.out.trans F3.out)
  have c0 := cell_of_blk B3.2 0; have c1 := cell_of_blk B3.2 1; have c2 := cell_of_blk B3.2 2; have c3 := cell_of_blk B3.2 3; have c4 := cell_of_blk B3.2 4
  clear f3 hmd hro B3
  go_wp2_with fail
  refine (CQ.out _).mono ?_
  rintro e w4 ⟨rfl, f4⟩
  clear c0 c1 c2 c3 c4 CQ
  have L0 : Hid (LwS w w2.heap.size w3.heap.size w4.heap.size (.slice av ys.length pv) ys dfl (.slice ac zs.length pc) (.slice ar b.rps.length pr) (.slice af b.fas.length pf) zs b ⟨ca, cd, at_, lv, fw, false⟩ (w4.alloc (.cells #[.int .i64 ca, .int .i64 cd, .int .i64 at_, .int .i64 lv, .int .i64 fw, .bool false] 68))) := Lib.hid (by
    have fa := Fr.alloc [] w4 (.cells #[.int .i64 ca, .int .i64 cd, .int .i64 at_, .int .i64 lv, .int .i64 fw, .bool false] 68)
    have f34 := f4.trans fa
    have f24 := F3.out.trans f34
    exact ⟨(F1.out.trans F2.out).trans f24, f24.keep LB.out (by simp), f34.keep RB.out (by simp), heap_alloc_new _ _, LF.out.1.same f24, LF.out.2.1, LF.out.2.2.1, LF.out.2.2.2, RO.out.1.same f34, RO.out.2, CQO.out, CQB.out, rfl⟩)
  have F4 : Hid (Fr [] w1 (w4.alloc (.cells #[.int .i64 ca, .int .i64 cd, .int .i64 at_, .int .i64 lv, .int .i64 fw, .bool false] 68))) := Lib.hid (((F2.out.trans F3.out).trans f4).trans (Fr.alloc _ _ _))
  clear f4 LF LB RO RB F2 F3 F1 CQO CQB FA HX HM HMI H1 H2 H3

  have Z4 := HZ.out _ F4.out
  have c0 := cell_of_blk Z4 0; have c1 := cell_of_blk Z4 1; have c2 := cell_of_blk Z4 2; have c3 := cell_of_blk Z4 3
  have CZ := Lib.hid fun W => cond26_c za zb zc zd W hza hzb hzc hzd
  clear Z4 HZ HB HA F4 hza hzb hzc hzd
  go_wp2_with fail
  refine (CZ.out _).mono ?_
  rintro e w5 ⟨⟨xk, xl, xh, xn⟩, rfl, hxb, hxo, f5⟩
  clear c0 c1 c2 c3 CZ
  have XB := Lib.hid hxb; have XO := Lib.hid hxo
  clear hxb hxo
  have HO := Lib.hid (allocs_at [.cells #[.int .i64 xk, .int .i64 xl, .int .i64 xh, .bool xn] 93, .cells #[.int .i64 xk, .int .i64 xl, .int .i64 xh, .bool (!xn)] 93, .cells #[.int .i64 xk, .int .i64 xl, .int .i64 xh, .bool xn] 93, .cells #[.int .i64 xk, .int .i64 xl, .int .i64 xh, .bool (!xn)] 93, .cells #[.slice (some ⟨w5.heap.size + 1 + 1, 0, none⟩) 1 1, .int .i64 2, .slice (some ⟨w5.heap.size + 1 + 1 + 1, 0, none⟩) 1 1, .int .i64 2, .slice none 0 0, .int .i64 2] 82, .cells #[.slice (some ⟨w5.heap.size + 1 + 1 + 1 + 1, 0, none⟩) 3 3, .int .i64 1] 65] w5)
  have FO := allocs_fr [.cells #[.int .i64 xk, .int .i64 xl, .int .i64 xh, .bool xn] 93, .cells #[.int .i64 xk, .int .i64 xl, .int .i64 xh, .bool (!xn)] 93, .cells #[.int .i64 xk, .int .i64 xl, .int .i64 xh, .bool xn] 93, .cells #[.int .i64 xk, .int .i64 xl, .int .i64 xh, .bool (!xn)] 93, .cells #[.slice (some ⟨w5.heap.size + 1 + 1, 0, none⟩) 1 1, .int .i64 2, .slice (some ⟨w5.heap.size + 1 + 1 + 1, 0, none⟩) 1 1, .int .i64 2, .slice none 0 0, .int .i64 2] 82, .cells #[.slice (some ⟨w5.heap.size + 1 + 1 + 1 + 1, 0, none⟩) 3 3, .int .i64 1] 65] w5
  have L6 : Hid (LwS w w2.heap.size w3.heap.size w4.heap.size (.slice av ys.length pv) ys dfl (.slice ac zs.length pc) (.slice ar b.rps.length pr) (.slice af b.fas.length pf) zs b ⟨ca, cd, at_, lv, fw, false⟩ ((((((w5.alloc (.cells #[.int .i64 xk, .int .i64 xl, .int .i64 xh, .bool xn] 93)).alloc (.cells #[.int .i64 xk, .int .i64 xl, .int .i64 xh, .bool (!xn)] 93)).alloc (.cells #[.int .i64 xk, .int .i64 xl, .int .i64 xh, .bool xn] 93)).alloc (.cells #[.int .i64 xk, .int .i64 xl, .int .i64 xh, .bool (!xn)] 93)).alloc (.cells #[.slice (some ⟨w5.heap.size + 1 + 1, 0, none⟩) 1 1, .int .i64 2, .slice (some ⟨w5.heap.size + 1 + 1 + 1, 0, none⟩) 1 1, .int .i64 2, .slice none 0 0, .int .i64 2] 82)).alloc (.cells #[.slice (some ⟨w5.heap.size + 1 + 1 + 1 + 1, 0, none⟩) 3 3, .int .i64 1] 65))) := Lib.hid ((L0.out.same f5).same FO)
  have AF : Hid (∀ W, Fr [] ((((((w5.alloc (.cells #[.int .i64 xk, .int .i64 xl, .int .i64 xh, .bool xn] 93)).alloc (.cells #[.int .i64 xk, .int .i64 xl, .int .i64 xh, .bool (!xn)] 93)).alloc (.cells #[.int .i64 xk, .int .i64 xl, .int .i64 xh, .bool xn] 93)).alloc (.cells #[.int .i64 xk, .int .i64 xl, .int .i64 xh, .bool (!xn)] 93)).alloc (.cells #[.slice (some ⟨w5.heap.size + 1 + 1, 0, none⟩) 1 1, .int .i64 2, .slice (some ⟨w5.heap.size + 1 + 1 + 1, 0, none⟩) 1 1, .int .i64 2, .slice none 0 0, .int .i64 2] 82)).alloc (.cells #[.slice (some ⟨w5.heap.size + 1 + 1 + 1 + 1, 0, none⟩) 3 3, .int .i64 1] 65)) W → _) := Lib.hid fun W hf => And.intro (hf.keep (show ((((((w5.alloc (.cells #[.int .i64 xk, .int .i64 xl, .int .i64 xh, .bool xn] 93)).alloc (.cells #[.int .i64 xk, .int .i64 xl, .int .i64 xh, .bool (!xn)] 93)).alloc (.cells #[.int .i64 xk, .int .i64 xl, .int .i64 xh, .bool xn] 93)).alloc (.cells #[.int .i64 xk, .int .i64 xl, .int .i64 xh, .bool (!xn)] 93)).alloc (.cells #[.slice (some ⟨w5.heap.size + 1 + 1, 0, none⟩) 1 1, .int .i64 2, .slice (some ⟨w5.heap.size + 1 + 1 + 1, 0, none⟩) 1 1, .int .i64 2, .slice none 0 0, .int .i64 2] 82)).alloc (.cells #[.slice (some ⟨w5.heap.size + 1 + 1 + 1 + 1, 0, none⟩) 3 3, .int .i64 1] 65)).heap[w5.heap.size + 1 + 1 + 1 + 1 + 1]? = _ from HO.out 5 (by simp)) (by simp)) ((al_at XO.out (show ((((((w5.alloc (.cells #[.int .i64 xk, .int .i64 xl, .int .i64 xh, .bool xn] 93)).alloc (.cells #[.int .i64 xk, .int .i64 xl, .int .i64 xh, .bool (!xn)] 93)).alloc (.cells #[.int .i64 xk, .int .i64 xl, .int .i64 xh, .bool xn] 93)).alloc (.cells #[.int .i64 xk, .int .i64 xl, .int .i64 xh, .bool (!xn)] 93)).alloc (.cells #[.slice (some ⟨w5.heap.size + 1 + 1, 0, none⟩) 1 1, .int .i64 2, .slice (some ⟨w5.heap.size + 1 + 1 + 1, 0, none⟩) 1 1, .int .i64 2, .slice none 0 0, .int .i64 2] 82)).alloc (.cells #[.slice (some ⟨w5.heap.size + 1 + 1 + 1 + 1, 0, none⟩) 3 3, .int .i64 1] 65)).heap[w5.heap.size + 1 + 1]? = _ from HO.out 2 (by simp)) (show ((((((w5.alloc (.cells #[.int .i64 xk, .int .i64 xl, .int .i64 xh, .bool xn] 93)).alloc (.cells #[.int .i64 xk, .int .i64 xl, .int .i64 xh, .bool (!xn)] 93)).alloc (.cells #[.int .i64 xk, .int .i64 xl, .int .i64 xh, .bool xn] 93)).alloc (.cells #[.int .i64 xk, .int .i64 xl, .int .i64 xh, .bool (!xn)] 93)).alloc (.cells #[.slice (some ⟨w5.heap.size + 1 + 1, 0, none⟩) 1 1, .int .i64 2, .slice (some ⟨w5.heap.size + 1 + 1 + 1, 0, none⟩) 1 1, .int .i64 2, .slice none 0 0, .int .i64 2] 82)).alloc (.cells #[.slice (some ⟨w5.heap.size + 1 + 1 + 1 + 1, 0, none⟩) 3 3, .int .i64 1] 65)).heap[w5.heap.size + 1 + 1 + 1]? = _ from HO.out 3 (by simp)) (show ((((((w5.alloc (.cells #[.int .i64 xk, .int .i64 xl, .int .i64 xh, .bool xn] 93)).alloc (.cells #[.int .i64 xk, .int .i64 xl, .int .i64 xh, .bool (!xn)] 93)).alloc (.cells #[.int .i64 xk, .int .i64 xl, .int .i64 xh, .bool xn] 93)).alloc (.cells #[.int .i64 xk, .int .i64 xl, .int .i64 xh, .bool (!xn)] 93)).alloc (.cells #[.slice (some ⟨w5.heap.size + 1 + 1, 0, none⟩) 1 1, .int .i64 2, .slice (some ⟨w5.heap.size + 1 + 1 + 1, 0, none⟩) 1 1, .int .i64 2, .slice none 0 0, .int .i64 2] 82)).alloc (.cells #[.slice (some ⟨w5.heap.size + 1 + 1 + 1 + 1, 0, none⟩) 3 3, .int .i64 1] 65)).heap[w5.heap.size + 1 + 1 + 1 + 1]? = _ from HO.out 4 (by simp))).same hf)
  have GG : Hid (goodF (alF xk xl xh xn) b ⟨ca, cd, at_, lv, fw, false⟩ = true) := Lib.hid (goodF_of (al_b XB.out) L6.out.made L6.out.cb)
  clear L0 f5 HO FO
  obtain ⟨hb, ehb⟩ : ∃ h, holdsF b ⟨ca, cd, at_, lv, fw, false⟩ ⟨xk, xl, xh, xn⟩ = h := ⟨_, rfl⟩
  have EH := Lib.hid ehb
  clear ehb
  have CM := Lib.hid (al_m0 (AF.out _ (Fr.refl _ _)).2 L6.out.rbAt L6.out.cok GG.out EH.out)
  obtain ⟨⟨g0, g1⟩, ⟨r0, r1, r2⟩, q0, q1, q2, q3, q4, q5⟩ := L6.out.cells
  simp only at q0 q1 q2 q3 q4 q5
  have A5 := (AF.out _ (Fr.refl _ _)).1
  have a0 := cell_of_blk A5 0; have a1 := cell_of_blk A5 1
  clear A5
  go_wp2_with fail
  clear a0 a1
  clear g0 g1 r0 r1 r2 q0 q1 q2 q3 q4 q5
  refine CM.out.mono ?_
  rintro e w6 ⟨rfl, f6⟩
  have L7 := Lib.hid (L6.out.same f6)
  have AA := AF.out _ f6
  have CM := Lib.hid (al_m1 AA.2 L7.out.rbAt L7.out.cok GG.out EH.out)
  have a0 := cell_of_blk AA.1 0; have a1 := cell_of_blk AA.1 1
  have F6 := Lib.hid f6
  clear f6 AA L6
  obtain ⟨⟨g0, g1⟩, ⟨r0, r1, r2⟩, q0, q1, q2, q3, q4, q5⟩ := L7.out.cells
  simp only at q0 q1 q2 q3 q4 q5
  go_wp2_with fail
  clear a0 a1
  clear g0 g1 r0 r1 r2 q0 q1 q2 q3 q4 q5
  refine CM.out.mono ?_
  rintro e w7 ⟨rfl, f7⟩
  have L8 := Lib.hid (L7.out.same f7)
  have AA := AF.out _ (F6.out.trans f7)
  have CM := Lib.hid (al_m2 AA.2 L8.out.rbAt L8.out.cok GG.out)
  have a0 := cell_of_blk AA.1 0; have a1 := cell_of_blk AA.1 1
  clear f7 AA L7 F6
  obtain ⟨⟨g0, g1⟩, ⟨r0, r1, r2⟩, q0, q1, q2, q3, q4, q5⟩ := L8.out.cells
  simp only at q0 q1 q2 q3 q4 q5
  go_wp2_with fail
  clear a0 a1
  clear g0 g1 r0 r1 r2 q0 q1 q2 q3 q4 q5
  refine CM.out.mono ?_
  rintro e w8 ⟨rfl, f8⟩
  have L9 := Lib.hid (L8.out.same f8)
  have hne : (hb == !hb) = false := by cases hb <;> rfl
  clear f8 L8 CM AF GG EH XO XB
  obtain ⟨⟨g0, g1⟩, ⟨r0, r1, r2⟩, q0, q1, q2, q3, q4, q5⟩ := L9.out.cells
  simp only at q0 q1 q2 q3 q4 q5
  have hy8 := L9.out.len
  by_cases hz : ys.length = 0
  · have hz2 : ((ys.length : Int) == 0) = true := by simp [hz]
    clear hz
    go_wp2_with fail
    go_ret
    exact ⟨rfl, L9.out.fr.below⟩
  · have hz2 : ((ys.length : Int) == 0) = false := by simpa using (show ¬ ((ys.length : Int)) = 0 by omega)
    have CP := Lib.hid fun W => lawpick26_c which ys.length W hw (by omega) (by omega)
    have bk := pickI_bound which ys.length (by omega)
    generalize pickI which ys.length = kk at *
    obtain ⟨k, rfl⟩ := Int.eq_ofNat_of_zero_le bk.1
    have hk : k < ys.length := by omega
    clear hz
    go_wp2_with fail
    refine (CP.out _).mono ?_
    rintro e w9 ⟨rfl, rfl⟩
    obtain ⟨M, eM⟩ : ∃ M, mB b ⟨ca, cd, at_, lv, fw, false⟩ ys[k].x = M := ⟨_, rfl⟩
    have CM := Lib.hid (lw_m k hk eM L9.out)
    have HM : Hid (ys[k].x.cds.all (holdsF b ⟨ca, cd, at_, lv, fw, false⟩) = M) := Lib.hid eM
    clear eM
    clear hne hz2 CP
    go_wp2_with fail
    clear g0 g1 r0 r1 r2 q0 q1 q2 q3 q4 q5
    refine CM.out.mono ?_
    rintro e w9 ⟨rfl, f9⟩
    have LA := Lib.hid (L9.out.same f9)
    clear f9 L9 CM
    have HK := Lib.hid hk
    obtain ⟨rb, ro, rcap, hrv, hrc⟩ := ruRow_cells (sl_of_row LA.out.own.row) k hk
    cases hrv
    have e0 := hrc 0 _ rfl
    simp only [Nat.add_zero] at e0
    have hcd := LA.out.own.cds _ (List.getElem_mem hk)
    have HXS := Lib.hid (LA.out.ok.cds _ (List.getElem_mem hk)).2
    clear hrc
    generalize ys[k] = y at *
    obtain ⟨⟨l, act⟩, u⟩ := y
    simp only at e0 hcd HXS HM
    obtain ⟨au, pu, rfl⟩ := (sl_of_row hcd).val
    have HE : Hid (∀ W, Fr [] w9 W → W.cell? ⟨rb, ro + k * 2, none⟩ = some (.slice au l.length pu) ∧ CdsAt W (.slice au l.length pu) l) := Lib.hid fun W hf => ⟨(World.cell?_of_block (hf.block rb (World.block_lt_of_cell? w9 _ e0) (by simp))).trans e0, (sl_of_row hcd).same hf⟩
    have hul := (sl_of_row hcd).len
    clear e0 hcd
    go_wp2_with fail
    go_loopw [31, 32] (fun al s wr => ∃ n : Nat, n ≤ l.length ∧ s = .int .i64 n ∧ al = .bool ((l.take n).all (holdsF b ⟨ca, cd, at_, lv, fw, false⟩)) ∧ Hid (LwS w w2.heap.size w3.heap.size w4.heap.size (.slice (some ⟨rb, ro, none⟩) ys.length pv) ys dfl (.slice ac zs.length pc) (.slice ar b.rps.length pr) (.slice af b.fas.length pf) zs b ⟨ca, cd, at_, lv, fw, false⟩ wr) ∧ Hid (Fr [] w9 wr)) (fun _ s _ => l.length - (intOf s).toNat)
    case atStart => exact ⟨0, Nat.zero_le _, rfl, rfl, LA, Lib.hid (Fr.refl _ _)⟩
    case round =>
      obtain ⟨n, hn, rfl, rfl, HR, HF⟩ := hrel
      obtain ⟨A, eA⟩ : ∃ A, (l.take n).all (holdsF b ⟨ca, cd, at_, lv, fw, false⟩) = A := ⟨_, rfl⟩
      rw [eA]
      have EA := Lib.hid eA
      clear eA
      have e0 := (HE.out _ HF.out).1
      obtain ⟨⟨g0, g1⟩, ⟨r0, r1, r2⟩, q0, q1, q2, q3, q4, q5⟩ := HR.out.cells
      simp only at q0 q1 q2 q3 q4 q5
      by_cases hlt : n < l.length
      · obtain ⟨b2, o2, cap2, hv2, hc2⟩ := cdRow_cells (HE.out _ HF.out).2 n hlt
        cases hv2
        have x0 := hc2 0 _ rfl; have x1 := hc2 1 _ rfl; have x2 := hc2 2 _ rfl; have x3 := hc2 3 _ rfl
        simp only [Nat.add_zero] at x0
        have HX := Lib.hid (HXS.out _ (List.getElem_mem hlt))
        have HT : Hid ((l.take (n + 1)).all (holdsF b ⟨ca, cd, at_, lv, fw, false⟩) = (A && holdsF b ⟨ca, cd, at_, lv, fw, false⟩ l[n])) := Lib.hid (by rw [List.take_succ_eq_append_getElem hlt, List.all_append, EA.out]; simp)
        generalize l[n] = x at *
        obtain ⟨hx, ehx⟩ : ∃ h, holdsF b ⟨ca, cd, at_, lv, fw, false⟩ x = h := ⟨_, rfl⟩
        have EX := Lib.hid ehx
        obtain ⟨yk, yl, yh, yn⟩ := x
        simp only at x0 x1 x2 x3
        have PP := pt_at (w := wr) HX.out.2
        have LP := Lib.hid (HR.out.same PP.1)
        have CM := Lib.hid (pt_m PP.2.2 LP.out.rbAt LP.out.cok (goodF_of (pt_b HX.out.1) LP.out.made LP.out.cb) EX.out)
        have a0 := cell_of_blk PP.2.1 0; have a1 := cell_of_blk PP.2.1 1
        unfold ptW at a0 a1 LP CM
        have HP := Lib.hid PP.1
        have LPC := LP.out.cells
        unfold ptW at HP
        obtain ⟨⟨m0, m1⟩, ⟨s0, s1, s2⟩, t0, t1, t2, t3, t4, t5⟩ := LPC
        simp only at t0 t1 t2 t3 t4 t5
        clear PP ehx hc2
        go_wp2_with fail
        clear a0 a1 m0 m1 s0 s1 s2 t0 t1 t2 t3 t4 t5 e0 x0 x1 x2 x3
        clear g0 g1 r0 r1 r2 q0 q1 q2 q3 q4 q5
        refine CM.out.mono ?_
        rintro e w10 ⟨rfl, f10⟩
        have LQ := Lib.hid (LP.out.same f10)
        have FQ := Lib.hid ((HF.out.trans HP.out).trans f10)
        clear f10 LP HP CM HR HF
        cases A <;> cases hx <;> (go_wp2_with fail; go_roundw; (case rel => exact ⟨n + 1, by omega, by go_num, by rw [HT.out, EX.out]; rfl, LQ, FQ⟩); (case measure => simp [intOf]; omega))
      · obtain rfl : n = l.length := by omega
        have HA : Hid ((M == A) = true) := Lib.hid (by rw [← HM.out, ← EA.out, List.take_length]; simp)
        go_wp2_with fail
        go_ret
        exact ⟨by rw [← HA.out]; rfl, HR.out.fr.below⟩

set_option maxRecDepth 100000 in
theorem walk_FilterTurned {H : Type} {enc : TypeId × Value → H} {base : Nat} (W : World) {v0 v1 v2 v3 v4 v5 v6 : Value} {d0 d1 d2 d3 d4 d5 d6 : DataW H} {p0 p1 p2 p3 p4 p5 p6 : List MemPlace} (k0 : Value.okWide Tryz.prog W .any base 58 v0) (h0 : DataW.Trod enc Tryz.prog W 0 (fun _ => true) true 58 v0 d0 p0) (k1 : Value.okWide Tryz.prog W .any base 48 v1) (h1 : DataW.Trod enc Tryz.prog W 0 (fun _ => true) true 48 v1 d1 p1) (k2 : Value.okWide Tryz.prog W .any base 3 v2) (h2 : DataW.Trod enc Tryz.prog W 0 (fun _ => true) true 3 v2 d2 p2) (k3 : Value.okWide Tryz.prog W .any base 25 v3) (h3 : DataW.Trod enc Tryz.prog W 0 (fun _ => true) true 25 v3 d3 p3) (k4 : Value.okWide Tryz.prog W .any base 59 v4) (h4 : DataW.Trod enc Tryz.prog W 0 (fun _ => true) true 59 v4 d4 p4) (k5 : Value.okWide Tryz.prog W .any base 3 v5) (h5 : DataW.Trod enc Tryz.prog W 0 (fun _ => true) true 3 v5 d5 p5) (k6 : Value.okWide Tryz.prog W .any base 31 v6) (h6 : DataW.Trod enc Tryz.prog W 0 (fun _ => true) true 31 v6 d6 p6) :
    Calls Tryz.prog 8 #[v0, v1, v2, v3, v4, v5, v6] W fun e W' => e = .returned (.bool true) ∧ Below W.heap.size W W' := by
  obtain ⟨nx, xs, a0⟩ := open_x3s k0 h0
  obtain ⟨ms, a1, i1⟩ := open_ints k1 h1
  obtain ⟨fb, rfl, j1, j2⟩ := open_i64 Tryz.underlying3 k2 h2
  obtain ⟨_, _, _, n1, n2, n3, is1, is2, is3, rfl, b1, b2, b3⟩ := open_numbers k3 h3
  obtain ⟨qa, qb, qc, qd, qe, rfl, g1, g2, g3, g4, g5⟩ := open_x5 k4 h4

  obtain ⟨x, rfl, u1, u2⟩ := open_i64 Tryz.underlying3 k5 h5
  obtain ⟨za, zb, zc, zd, rfl, z1, z2, z3, z4⟩ := open_i4 k6 h6
  exact turned_c _ _ _ _ _ nx n1 n2 n3 xs ms is1 is2 is3 fb qa qb qc qd qe x za zb zc zd W a0 a1 i1 ⟨j1, j2⟩ b1 b2 b3 g1 g2 g3 g4 g5 ⟨u1, u2⟩ z1 z2 z3 z4

end Go.Proofs.YtkopnooajikpmaaGreat
