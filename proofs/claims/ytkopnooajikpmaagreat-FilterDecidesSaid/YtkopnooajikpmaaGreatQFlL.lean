/-
  The laws of chapter 26: a filter, a rulebook and a call in their boxes.
-/
import Derived.Test.YtkopnooajikpmaaGreatQFlR4
import Derived.Test.YtkopnooajikpmaaGreatQFlR3
import Derived.Test.YtkopnooajikpmaaGreatQFO
import Derived.Test.YtkopnooajikpmaaGreatQFS
import Derived.Test.YtkopnooajikpmaaGreatQPl
namespace Go.Proofs.YtkopnooajikpmaaGreat
open Go.RowKit Go.Lib

abbrev flOf (ys : List RuV) (dfl : Int) : Fl := ⟨ys.map (·.x), dfl⟩
structure LwS (w : World) (bF bR bC : Nat) (v : Value) (ys : List RuV) (dfl : Int) (vc vr vf : Value) (zs : List ClV) (b : Rb) (c : Ca) (W : World) : Prop where
  fr : Fr [] w W
  fbox : W.heap[bF]? = some (.cells #[v, .int .i64 dfl] 65 (0, 0))
  rbox : W.heap[bR]? = some (.cells #[vc, vr, vf] 30 (0, 0))
  cbox : W.heap[bC]? = some (.cells #[.int .i64 c.caller, .int .i64 c.called, .int .i64 c.at_, .int .i64 c.level, .int .i64 c.fwd, .bool c.back] 68 (0, 0))
  own : FlOwn w.heap.size W v ys
  ok : RusOk ys
  len : ys.length ≤ 8
  adfl : actB dfl = true
  rown : RbOwn w.heap.size W vc vr vf zs b
  made : MadeOk b
  cok : CaOk c
  cb : caB c = true
  back : c.back = false
section
variable {w W W' : World} {bF bR bC : Nat} {v vc vr vf : Value} {ys : List RuV} {dfl : Int} {zs : List ClV} {b : Rb} {c : Ca}
theorem LwS.same (h : LwS w bF bR bC v ys dfl vc vr vf zs b c W) (hf : Fr [] W W') : LwS w bF bR bC v ys dfl vc vr vf zs b c W' :=
  ⟨h.fr.trans hf, hf.keep h.fbox (by simp), hf.keep h.rbox (by simp), hf.keep h.cbox (by simp), h.own.same hf, h.ok, h.len, h.adfl, h.rown.same hf, h.made, h.cok, h.cb, h.back⟩
theorem LwS.flAt (h : LwS w bF bR bC v ys dfl vc vr vf zs b c W) : FlAt W v ys (flOf ys dfl) := h.own.at_ h.ok (actB_i64 h.adfl)
theorem LwS.rbAt (h : LwS w bF bR bC v ys dfl vc vr vf zs b c W) : RbAt W vc vr vf zs b := h.rown.at_ h.made.ok
theorem LwS.good (h : LwS w bF bR bC v ys dfl vc vr vf zs b c W) : goodF (flOf ys dfl) b c = true := by
  unfold goodF
  rw [h.ok.flB (by have := h.len; omega) h.adfl, h.made.valid, h.cb]
  rfl
theorem LwS.cells (h : LwS w bF bR bC v ys dfl vc vr vf zs b c W) : (W.cell? ⟨bF, 0, none⟩ = some v ∧ W.cell? ⟨bF, 1, none⟩ = some (.int .i64 dfl)) ∧ (W.cell? ⟨bR, 0, none⟩ = some vc ∧ W.cell? ⟨bR, 1, none⟩ = some vr ∧ W.cell? ⟨bR, 2, none⟩ = some vf) ∧
    (W.cell? ⟨bC, 0, none⟩ = some (.int .i64 c.caller) ∧ W.cell? ⟨bC, 1, none⟩ = some (.int .i64 c.called) ∧ W.cell? ⟨bC, 2, none⟩ = some (.int .i64 c.at_) ∧ W.cell? ⟨bC, 3, none⟩ = some (.int .i64 c.level) ∧ W.cell? ⟨bC, 4, none⟩ = some (.int .i64 c.fwd) ∧ W.cell? ⟨bC, 5, none⟩ = some (.bool c.back)) :=
  ⟨⟨cell_of_blk h.fbox 0, cell_of_blk h.fbox 1⟩, ⟨cell_of_blk h.rbox 0, cell_of_blk h.rbox 1, cell_of_blk h.rbox 2⟩, cell_of_blk h.cbox 0, cell_of_blk h.cbox 1, cell_of_blk h.cbox 2, cell_of_blk h.cbox 3, cell_of_blk h.cbox 4, cell_of_blk h.cbox 5⟩
end
theorem goodF_of {f : Fl} {b : Rb} {c : Ca} (h1 : flB f = true) (h2 : MadeOk b) (h3 : caB c = true) : goodF f b c = true := by
  unfold goodF
  rw [h1, h2.valid, h3]
  rfl
theorem holds_neg (b : Rb) (c : Ca) (k l h : Int) (n : Bool) : holdsF b c ⟨k, l, h, !n⟩ = !holdsF b c ⟨k, l, h, n⟩ := by
  unfold holdsF plainB
  have e : plainK c ⟨k, l, h, !n⟩ = plainK c ⟨k, l, h, n⟩ := rfl
  have e2 : qnOf c ⟨k, l, h, !n⟩ = qnOf c ⟨k, l, h, n⟩ := rfl
  rw [e, e2]
  simp only
  split
  · cases decideA b (qnOf c ⟨k, l, h, n⟩) <;> cases n <;> rfl
  · cases plainK c ⟨k, l, h, n⟩ <;> cases n <;> rfl
theorem cdB_neg (k l h : Int) (n m : Bool) (hx : cdB ⟨k, l, h, n⟩ = true) : cdB ⟨k, l, h, m⟩ = true := hx

end Go.Proofs.YtkopnooajikpmaaGreat
