/-
  What the laws of dialtonelaw08 begin with: rules that integers determine, a question, both boxed.
-/
import Derived.Test.YtfidioedjmjddaaL8o
namespace Go.Proofs.Ytfidioedjmjddaa
open Go.RowKit Go.Lib

/-- The rules and the question of a law, in their boxes. -/
structure LawSt (w : World) (bc bq : Nat) (vc vr vf : Value) (ys : List ClV) (c : Rb) (q : Qn) (W : World) : Prop where
  fr : Fr [] w W
  cbox : W.heap[bc]? = some (.cells #[vc, vr, vf] 32 (0, 0))
  qbox : W.heap[bq]? = some (.cells #[.int .i64 q.thing, .int .i64 q.says, .int .i64 q.at_, .int .i64 q.known] 40 (0, 0))
  own : RbOwn (w.heap.size + 3) W vc vr vf ys c
  made : MadeOk c
  ok : okB c q = true
theorem LawSt.same {w : World} {bc bq : Nat} {vc vr vf : Value} {ys : List ClV} {c : Rb} {q : Qn} {W W' : World} (h : LawSt w bc bq vc vr vf ys c q W) (hf : Fr [] W W') : LawSt w bc bq vc vr vf ys c q W' :=
  ⟨h.fr.trans hf, hf.keep h.cbox (by simp), hf.keep h.qbox (by simp), h.own.same hf, h.made, h.ok⟩
theorem LawSt.at_ {w : World} {bc bq : Nat} {vc vr vf : Value} {ys : List ClV} {c : Rb} {q : Qn} {W : World} (h : LawSt w bc bq vc vr vf ys c q W) : RbAt W vc vr vf ys c := h.own.at_ h.made.ok

theorem LawSt.cells {w : World} {bc bq : Nat} {vc vr vf : Value} {ys : List ClV} {c : Rb} {x0 x1 x2 x3 : Int} {W : World} (h : LawSt w bc bq vc vr vf ys c ⟨x0, x1, x2, x3⟩ W) :
    (W.cell? ⟨bc, 0, none⟩ = some vc ∧ W.cell? ⟨bc, 1, none⟩ = some vr ∧ W.cell? ⟨bc, 2, none⟩ = some vf) ∧ W.cell? ⟨bq, 0, none⟩ = some (.int .i64 x0) ∧ W.cell? ⟨bq, 1, none⟩ = some (.int .i64 x1) ∧ W.cell? ⟨bq, 2, none⟩ = some (.int .i64 x2) ∧ W.cell? ⟨bq, 3, none⟩ = some (.int .i64 x3) :=
  ⟨⟨cell_of_blk h.cbox 0, cell_of_blk h.cbox 1, cell_of_blk h.cbox 2⟩, cell_of_blk h.qbox 0, cell_of_blk h.qbox 1, cell_of_blk h.qbox 2, cell_of_blk h.qbox 3⟩
theorem LawSt.check {w : World} {bc bq : Nat} {vc vr vf : Value} {ys : List ClV} {c : Rb} {x0 x1 x2 x3 : Int} {W : World} (h : LawSt w bc bq vc vr vf ys c ⟨x0, x1, x2, x3⟩ W) (vl : Value) (l : List Fd) (a b : Bool) (hl : Sl W vl l.length (l.flatMap fdC)) (hb : checkB c ⟨x0, x1, x2, x3⟩ a l = b) :
    Calls Try.prog 14 #[.agg #[vc, vr, vf], .agg #[.int .i64 x0, .int .i64 x1, .int .i64 x2, .int .i64 x3], .bool a, vl] W fun e w' => e = .returned (.bool b) ∧ Fr [] W w' := by
  subst hb
  exact check_c vc vr vf vl ys c ⟨x0, x1, x2, x3⟩ a l W h.at_ hl

def askQ (a b c d : Int) : Qn := ⟨pickI a 3, pickI b 8, pickI c 100, pickI d 100⟩
structure AskM (q : Qn) : Prop where
  thing : 0 ≤ q.thing ∧ q.thing < 3
  says : 0 ≤ q.says ∧ q.says < 8
  at_ : 0 ≤ q.at_ ∧ q.at_ < 100
  known : 0 ≤ q.known ∧ q.known < 100
theorem askQ_m (a b c d : Int) : AskM (askQ a b c d) := ⟨pickI_bound a 3 (by omega), pickI_bound b 8 (by omega), pickI_bound c 100 (by omega), pickI_bound d 100 (by omega)⟩
theorem AskM.asks {q : Qn} (h : AskM q) : asksB q = true := by
  have h1 := h.thing; have h2 := h.says; have h3 := h.at_; have h4 := h.known
  simp only [asksB, secB, isInB, Bool.and_eq_true, decide_eq_true_eq]
  omega
theorem ok_of {c : Rb} {q : Qn} (h : MadeOk c) (hq : AskM q) : okB c q = true := by
  simp only [okB, Bool.and_eq_true]
  exact ⟨h.valid, hq.asks⟩

theorem decide_len {c : Rb} {q : Qn} (h : okB c q = true) : 0 < (decideL c q).length ∧ (decideL c q).length ≤ 20 := by
  have h1 := decide_checks h
  simp only [checkB, provesB, Bool.and_eq_true, decide_eq_true_eq] at h1
  refine ⟨List.length_pos_iff.2 h1.2.1.1.2, ?_⟩
  have h2 : q.says ≤ 19 := by
    simp only [okB, asksB, Bool.and_eq_true, isInB_iff] at h
    exact h.2.1.1.2.2
  unfold decideL
  refine Nat.le_trans (prune_len _ _) ?_
  rw [fdTo_length]; omega

/-- Blocks that are made one after the other. -/
def allocs (w : World) : List Obj → World
  | [] => w
  | o :: l => allocs (w.alloc o) l
theorem allocs_fr : ∀ (l : List Obj) (w : World), Fr [] w (allocs w l)
  | [], _ => Fr.refl _ _
  | o :: l, w => (Fr.alloc _ w o).trans (allocs_fr l _)
theorem allocs_at : ∀ (l : List Obj) (w : World) (i : Nat) (h : i < l.length), (allocs w l).heap[w.heap.size + i]? = some l[i]
  | o :: l, w, 0, _ => (allocs_fr l (w.alloc o)).keep (heap_alloc_new w o) (by simp)
  | o :: l, w, i + 1, h => by
    have := allocs_at l (w.alloc o) i (by simpa using h)
    have hs : (w.alloc o).heap.size = w.heap.size + 1 := Array.size_push ..
    rw [hs, show w.heap.size + 1 + i = w.heap.size + (i + 1) by omega] at this
    exact this

/-- A part of a row that is owned can be read. -/
theorem srcAt_part {w : World} {e : TypeId} {size g n cap : Nat} {xs : List Value} (h : w.ownsRow 0 e size (.slice (some ⟨g, 0, none⟩) n cap) n xs) (i m c' off : Nat) (hi : i + m ≤ n) (ho : off = i * size ∨ m = 0) :
    SrcAt w (.slice (some ⟨g, off, none⟩) m c') m ((xs.drop (i * size)).take (m * size)) := by
  refine ⟨.inr ⟨_, c', rfl, fun j u hu => ?_⟩⟩
  rcases h.2 with ⟨h0, _⟩ | ⟨g', cap', cur, hv, _, hg, r1, r2, r3, r4⟩
  · cases h0
  · cases hv
    have hj : j < m * size := by
      have := (List.getElem?_eq_some_iff.1 hu).1
      simp at this; omega
    rcases ho with ho | ho
    · subst ho
      rw [addr_add, cell_of_blk hg]
      rw [List.getElem?_take_of_lt hj, List.getElem?_drop] at hu
      have hlt : i * size + j < n * size := by
        have : (i + m) * size ≤ n * size := Nat.mul_le_mul_right size hi
        rw [Nat.add_mul] at this; omega
      rw [← r4, List.getElem?_take_of_lt hlt, Array.getElem?_toList] at hu
      exact hu
    · subst ho; simp at hj

/-- An empty slice literal. -/
theorem row_empty (w : World) (e : TypeId) (size : Nat) : (w.alloc (.cells #[] e)).ownsRow 0 e size (.slice (some ⟨w.heap.size, 0, none⟩) 0 0) 0 [] :=
  ⟨by simp, .inr ⟨w.heap.size, 0, #[], rfl, Nat.zero_le _, heap_alloc_new _ _, Nat.le_refl _, Nat.zero_le _, by simp, by simp⟩⟩

theorem fd_head (l : List Fd) (k : Nat) : ((l.flatMap fdC).drop (0 * 4)).take (k * 4) = (l.take k).flatMap fdC := by rw [Nat.zero_mul, List.drop_zero, ← flat_take]
theorem fd_tail (l : List Fd) (k : Nat) : ((l.flatMap fdC).drop (k * 4)).take ((l.length - k) * 4) = (l.drop k).flatMap fdC := by
  rw [← flat_drop, List.take_of_length_le]
  rw [fdC_len]; simp

end Go.Proofs.Ytfidioedjmjddaa
