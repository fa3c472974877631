/-
  The calls that StatuteMatchesReference compares, stated for the same values.
-/
import Derived.Test.YtfidioedjmjddaaGreatQRgP
import Derived.Test.YtfidioedjmjddaaGreatQL8
namespace Go.Proofs.YtfidioedjmjddaaGreat
open Go.RowKit Go.Lib

def ansA (c : Rb) (q : Qn) : Bool := okB c q && decideA c q
def ansE (c : Rb) (q : Qn) : Int := if okB c q then 0 else 80
def ansL (c : Rb) (q : Qn) : List Fd := if okB c q then decideL c q else []
def ansF (c : Rb) (q : Qn) : List Int := if okB c q then factsOf c q else []
def ansC (c : Rb) (q : Qn) : List Int := if okB c q then clausesOf c q else []
def useE (c : Rb) (q : Qn) (l : List Fd) : Int := if usesB c q l then 0 else 80
def useS (c : Rb) (q : Qn) (l : List Fd) : List Int := if usesB c q l then pickN (fun i => l.any (useP i)) c.fas.length else []
def useT (c : Rb) (q : Qn) (l : List Fd) : List Int := if usesB c q l then pickN (fun i => l.any (useQ c q i)) c.cls.length else []

theorem ans_cases (c : Rb) (q : Qn) : (ansE c q = 0 ∧ (ansL c q).length ≤ 20) ∨ (ansE c q = 80 ∧ ansL c q = []) := by
  unfold ansE ansL
  cases h : okB c q with
  | true => exact .inl ⟨rfl, by simpa using (decide_len h).2⟩
  | false => exact .inr ⟨rfl, rfl⟩

theorem jdecide_c {vc vr vf : Value} {ys : List ClV} {c : Rb} {q : Qn} {w : World} (h : RbAt w vc vr vf ys c) (A : Bool) (E : Int) (L : List Fd) (hA : ansA c q = A) (hE : ansE c q = E) (hL : ansL c q = L) :
    Calls Tryz.prog 11 #[rbV vc vr vf, qnV q] w fun e w' => ∃ a p, e = .returned (.tuple #[.bool A, .slice a L.length p, .int .i64 E]) ∧ Fr [] w w' ∧ FdAt w' (.slice a L.length p) L := by
  subst hA hE hL
  refine (decide_c vc vr vf ys c q w h).mono ?_
  unfold ansA ansE ansL
  rintro e w' ⟨f, ⟨ho, rfl⟩ | ⟨ho, v, rfl, hr, _⟩⟩
  · rw [ho]
    exact ⟨none, 0, rfl, f, ⟨Sl.nil _, ⟨.inl ⟨rfl, rfl, rfl⟩⟩⟩⟩
  · rw [ho]
    obtain ⟨a, p, rfl⟩ := (sl_of_row hr).val
    exact ⟨a, p, by simp, f, ⟨sl_of_row hr, srcAt_of_row hr⟩⟩
theorem janswer_c {vc vr vf : Value} {ys : List ClV} {c : Rb} {q : Qn} {w : World} (h : RbAt w vc vr vf ys c) (A : Bool) (E : Int) (hA : ansA c q = A) (hE : ansE c q = E) :
    Calls Tryz.prog 12 #[rbV vc vr vf, qnV q] w fun e w' => e = .returned (.tuple #[.bool A, .int .i64 E]) ∧ Fr [] w w' := by
  subst hA hE
  refine (ranswer_c vc vr vf ys c q w h).mono ?_
  unfold ansA ansE
  rintro e w' ⟨f, ⟨ho, rfl⟩ | ⟨ho, rfl⟩⟩
  · rw [ho]; exact ⟨rfl, f⟩
  · rw [ho, answer_eq ho]; exact ⟨by simp, f⟩
theorem japplies_c {vc vr vf : Value} {ys : List ClV} {c : Rb} {q : Qn} {w : World} (h : RbAt w vc vr vf ys c) (E : Int) (F C : List Int) (hE : ansE c q = E) (hF : ansF c q = F) (hC : ansC c q = C) :
    Calls Tryz.prog 13 #[rbV vc vr vf, qnV q] w fun e w' => ∃ a p b r, e = .returned (.tuple #[.slice a F.length p, .slice b C.length r, .int .i64 E]) ∧ Fr [] w w' ∧ IntsAt w' (.slice a F.length p) F ∧ IntsAt w' (.slice b C.length r) C := by
  subst hE hF hC
  refine (applies_c vc vr vf ys c q w h).mono ?_
  unfold ansE ansF ansC
  rintro e w' ⟨f, ⟨ho, rfl⟩ | ⟨ho, v1, v2, rfl, h1, h2, _⟩⟩
  · rw [ho]
    exact ⟨none, 0, none, 0, rfl, f, Sl.nil _, Sl.nil _⟩
  · rw [ho]
    obtain ⟨a, p, rfl⟩ := (sl_of_row h1).val
    obtain ⟨b, r, rfl⟩ := (sl_of_row h2).val
    exact ⟨a, p, b, r, rfl, f, sl_of_row h1, sl_of_row h2⟩
theorem jrapplies_c {vc vr vf : Value} {ys : List ClV} {c : Rb} {q : Qn} {w : World} (h : RbAt w vc vr vf ys c) (E : Int) (F C : List Int) (hE : ansE c q = E) (hF : ansF c q = F) (hC : ansC c q = C) :
    Calls Tryz.prog 14 #[rbV vc vr vf, qnV q] w fun e w' => ∃ a p b r, e = .returned (.tuple #[.slice a F.length p, .slice b C.length r, .int .i64 E]) ∧ Fr [] w w' ∧ IntsAt w' (.slice a F.length p) F ∧ IntsAt w' (.slice b C.length r) C := by
  subst hE hF hC
  refine (rapplies_c vc vr vf ys c q w h).mono ?_
  unfold ansE ansF ansC
  rintro e w' ⟨f, ⟨ho, rfl⟩ | ⟨ho, v1, v2, rfl, h1, h2⟩⟩
  · rw [ho]
    exact ⟨none, 0, none, 0, rfl, f, Sl.nil _, Sl.nil _⟩
  · rw [ho]
    obtain ⟨a, p, rfl⟩ := h1.val
    obtain ⟨b, r, rfl⟩ := h2.val
    exact ⟨a, p, b, r, rfl, f, h1, h2⟩
theorem juses_c {vc vr vf vl : Value} {ys : List ClV} {c : Rb} {q : Qn} {l : List Fd} {w : World} (h : RbAt w vc vr vf ys c) (hl : Sl w vl l.length (l.flatMap fdC)) (E : Int) (F C : List Int) (hE : useE c q l = E) (hF : useS c q l = F) (hC : useT c q l = C) :
    Calls Tryz.prog 19 #[rbV vc vr vf, qnV q, vl] w fun e w' => ∃ a p b r, e = .returned (.tuple #[.slice a F.length p, .slice b C.length r, .int .i64 E]) ∧ Fr [] w w' ∧ IntsAt w' (.slice a F.length p) F ∧ IntsAt w' (.slice b C.length r) C := by
  subst hE hF hC
  refine (uses_c vc vr vf vl ys c q l w h hl).mono ?_
  unfold useE useS useT
  rintro e w' ⟨f, ⟨ho, rfl⟩ | ⟨ho, v1, v2, rfl, hU⟩⟩
  · rw [ho]
    exact ⟨none, 0, none, 0, rfl, f, Sl.nil _, Sl.nil _⟩
  · rw [ho]
    have h1 := sl_of_row hU.r1; have h2 := sl_of_row hU.r2
    rw [useF_eq ho hU.s1] at h1
    rw [useC_eq ho hU.s2] at h2
    obtain ⟨a, p, rfl⟩ := h1.val
    obtain ⟨b, r, rfl⟩ := h2.val
    exact ⟨a, p, b, r, rfl, f, h1, h2⟩
theorem jruses_c {vc vr vf vl : Value} {ys : List ClV} {c : Rb} {q : Qn} {l : List Fd} {w : World} (h : RbAt w vc vr vf ys c) (hl : Sl w vl l.length (l.flatMap fdC)) (E : Int) (F C : List Int) (hE : useE c q l = E) (hF : useS c q l = F) (hC : useT c q l = C) :
    Calls Tryz.prog 20 #[rbV vc vr vf, qnV q, vl] w fun e w' => ∃ a p b r, e = .returned (.tuple #[.slice a F.length p, .slice b C.length r, .int .i64 E]) ∧ Fr [] w w' ∧ IntsAt w' (.slice a F.length p) F ∧ IntsAt w' (.slice b C.length r) C := by
  subst hE hF hC
  refine (ruses_c vc vr vf vl ys c q l w h hl).mono ?_
  unfold useE useS useT
  rintro e w' ⟨f, ⟨ho, rfl⟩ | ⟨ho, v1, v2, rfl, h1, h2⟩⟩
  · rw [ho]
    exact ⟨none, 0, none, 0, rfl, f, Sl.nil _, Sl.nil _⟩
  · rw [ho]
    obtain ⟨a, p, rfl⟩ := h1.val
    obtain ⟨b, r, rfl⟩ := h2.val
    exact ⟨a, p, b, r, rfl, f, h1, h2⟩
theorem jints_c {va vb : Value} {l : List Int} {w : World} (ha : IntsAt w va l) (hb : IntsAt w vb l) : Calls Tryz.prog 17 #[va, vb] w fun e w' => e = .returned (.bool true) ∧ Fr [] w w' := by
  refine (ints_c va vb l l w ha hb).mono ?_
  rintro e w' ⟨rfl, f⟩
  exact ⟨by simp, f⟩

/-- Rules and a question in boxes of a walk's own. -/
structure MS (w : World) (bc bq : Nat) (vc vr vf : Value) (ys : List ClV) (c : Rb) (x0 x1 x2 x3 : Int) (W : World) : Prop where
  fr : Fr [] w W
  cbox : W.heap[bc]? = some (.cells #[vc, vr, vf] 30 (0, 0))
  qbox : W.heap[bq]? = some (.cells #[.int .i64 x0, .int .i64 x1, .int .i64 x2, .int .i64 x3] 33 (0, 0))
  at_ : RbAt W vc vr vf ys c
theorem MS.same {w : World} {bc bq : Nat} {vc vr vf : Value} {ys : List ClV} {c : Rb} {x0 x1 x2 x3 : Int} {W W' : World} (h : MS w bc bq vc vr vf ys c x0 x1 x2 x3 W) (hf : Fr [] W W') : MS w bc bq vc vr vf ys c x0 x1 x2 x3 W' :=
  ⟨h.fr.trans hf, hf.keep h.cbox (by simp), hf.keep h.qbox (by simp), h.at_.same hf⟩
theorem MS.cells {w : World} {bc bq : Nat} {vc vr vf : Value} {ys : List ClV} {c : Rb} {x0 x1 x2 x3 : Int} {W : World} (h : MS w bc bq vc vr vf ys c x0 x1 x2 x3 W) :
    (W.cell? ⟨bc, 0, none⟩ = some vc ∧ W.cell? ⟨bc, 1, none⟩ = some vr ∧ W.cell? ⟨bc, 2, none⟩ = some vf) ∧ W.cell? ⟨bq, 0, none⟩ = some (.int .i64 x0) ∧ W.cell? ⟨bq, 1, none⟩ = some (.int .i64 x1) ∧ W.cell? ⟨bq, 2, none⟩ = some (.int .i64 x2) ∧ W.cell? ⟨bq, 3, none⟩ = some (.int .i64 x3) :=
  ⟨⟨cell_of_blk h.cbox 0, cell_of_blk h.cbox 1, cell_of_blk h.cbox 2⟩, cell_of_blk h.qbox 0, cell_of_blk h.qbox 1, cell_of_blk h.qbox 2, cell_of_blk h.qbox 3⟩

end Go.Proofs.YtfidioedjmjddaaGreat
