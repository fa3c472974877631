/-
  statute: open, Check; slices.Clone and slices.Delete at findings.
-/
import Derived.Test.YtfidioedjmjddaaStD
namespace Go.Proofs.Ytfidioedjmjddaa
open Go.RowKit Go.Lib Go.Maps

/-- What open returns. -/
def Opened (ys : List ClV) (c : Rb) (q : Qn) (w : World) (e : Ending) (w' : World) : Prop :=
  Fr [] w w' ∧ ((okB c q = false ∧ ∃ p, e = .returned (.tuple #[.pointer p, .int .i64 80])) ∨
    (okB c q = true ∧ ∃ J D, e = .returned (.tuple #[.pointer (some ⟨J.bj, 0, none⟩), .int .i64 0]) ∧ JS J w' ∧ FoundAt w' J.bm J.fd D ∧ J.c = c ∧ J.fs = factsOf c q ∧ J.cs = clausesOf c q ∧ J.ys = ys ∧ w.heap.size ≤ J.bm ∧ w.heap.size ≤ J.bj))

theorem factsOf_sub {c : Rb} {q : Qn} {i : Int} (h : i ∈ factsOf c q) : 0 ≤ i ∧ i < c.fas.length := pickN_lt h
theorem clausesOf_sub {c : Rb} {q : Qn} {i : Int} (h : i ∈ clausesOf c q) : 0 ≤ i ∧ i < c.cls.length := pickN_lt h

theorem emptyFound (w : World) (f : Int → Fd) : FoundAt (w.alloc (.map #[] 0)) w.heap.size f (.map []) := by
  refine ⟨?_, fun k _ h => ?_⟩
  · have : cntD (.map [] : DataW Unit) 20 = 0 := by
      unfold cntD
      rw [List.filter_eq_nil_iff.2 (fun k _ => by simp [Maps.has])]
      rfl
    rw [this]
    exact World.ownsMap_made w Try.prog 3 fdR
  · simp [Maps.has] at h

set_option maxRecDepth 100000 in
set_option maxHeartbeats 4000000 in
theorem open_c (vc vr vf : Value) (ys : List ClV) (c : Rb) (q : Qn) (w : World) (h : RbAt w vc vr vf ys c) : Calls Try.prog 21 #[rbV vc vr vf, qnV q] w (Opened ys c q w) := by
  have hcl : c.cls.length = ys.length := by rw [h.eq]; simp
  obtain ⟨ac, pc, rfl⟩ := h.cls.sl.val
  obtain ⟨ar, pr, rfl⟩ := h.rps.val
  obtain ⟨af, pf, rfl⟩ := h.fas.val
  obtain ⟨th, sa, at_, kn⟩ := q
  have A2 := alloc2' w (.cells #[.slice ac ys.length pc, .slice ar c.rps.length pr, .slice af c.fas.length pf] 32) (.cells #[.int .i64 th, .int .i64 sa, .int .i64 at_, .int .i64 kn] 40)
  have F2 : Fr [] w ((w.alloc (.cells #[.slice ac ys.length pc, .slice ar c.rps.length pr, .slice af c.fas.length pf] 32)).alloc (.cells #[.int .i64 th, .int .i64 sa, .int .i64 at_, .int .i64 kn] 40)) := (Fr.alloc _ _ _).trans (Fr.alloc _ _ _)
  have CA := Lib.hid (applies_c _ _ _ ys c ⟨th, sa, at_, kn⟩ _ (h.same F2))
  have HA := Lib.hid A2; have HF := Lib.hid F2; have HR := Lib.hid h; clear A2 F2 h
  have hmm := @run_makeMap Try.prog
  unfold rbV qnV at *
  simp only at CA ⊢
  go_enter Try.func21, Try.ntmps21
  go_wp2_with fail
  refine CA.out.mono ?_
  rintro e w1 ⟨f1, h1⟩
  have K0 := f1.keep HA.out.1 (by simp)
  have c0 : w1.cell? ⟨w.heap.size, 0, none⟩ = some (.slice ac ys.length pc) := cell_of_blk K0 0
  have c1 : w1.cell? ⟨w.heap.size, 1, none⟩ = some (.slice ar c.rps.length pr) := cell_of_blk K0 1
  have c2 : w1.cell? ⟨w.heap.size, 2, none⟩ = some (.slice af c.fas.length pf) := cell_of_blk K0 2
  have F1 := Lib.hid (HF.out.trans f1)
  clear K0 f1 CA
  rcases h1 with ⟨ho, rfl⟩ | ⟨ho, v1, v2, rfl, r1, r2, n1, n2⟩
  · have Ho := Lib.hid ho; clear ho
    go_wp2_with fail
    go_ret2
    exact ⟨(F1.out.trans (Fr.alloc _ _ _)).trans (Fr.alloc _ _ _), .inl ⟨Ho.out, _, rfl⟩⟩
  · have S1 := Lib.hid (sl_of_row r1)
    have S2 := Lib.hid (sl_of_row r2)
    obtain ⟨a1, p1, rfl⟩ := S1.out.val
    obtain ⟨a2, p2, rfl⟩ := S2.out.val
    have Ho := Lib.hid ho
    clear r1 r2 n1 n2 ho
    go_wp2_with fail
    go_ret2
    have hok := Ho.out
    simp only [okB, Bool.and_eq_true] at hok
    have f3 : Fr [] w1 ((w1.alloc (.map #[] 0)).alloc (.cells #[.slice ac ys.length pc, .slice ar c.rps.length pr, .slice af c.fas.length pf, .slice a1 (factsOf c ⟨th, sa, at_, kn⟩).length p1, .slice a2 (clausesOf c ⟨th, sa, at_, kn⟩).length p2, .map (some w1.heap.size)] 74)) := (Fr.alloc _ _ _).trans (Fr.alloc _ _ _)
    have A3 := alloc2' w1 (.map #[] 0) (.cells #[.slice ac ys.length pc, .slice ar c.rps.length pr, .slice af c.fas.length pf, .slice a1 (factsOf c ⟨th, sa, at_, kn⟩).length p1, .slice a2 (clausesOf c ⟨th, sa, at_, kn⟩).length p2, .map (some w1.heap.size)] 74)
    have hs1 := F1.out.size
    refine ⟨F1.out.trans f3, .inr ⟨Ho.out, ⟨w1.heap.size + 1, w1.heap.size, _, _, _, _, _, ys, c, factsOf c ⟨th, sa, at_, kn⟩, clausesOf c ⟨th, sa, at_, kn⟩⟩, .map [], rfl, ⟨A3.2, HR.out.same (F1.out.trans f3), S1.out.same f3, S2.out.same f3, hok.1, good_of_valid hok.1, fun i hi => factsOf_sub hi, fun i hi => by have := clausesOf_sub hi; rw [hcl] at this; exact this⟩, (emptyFound w1 _).fr (Fr.alloc _ _ _), rfl, rfl, rfl, rfl, hs1, by simp only; omega⟩⟩

set_option maxRecDepth 100000 in
set_option maxHeartbeats 4000000 in
theorem check_c (vc vr vf vl : Value) (ys : List ClV) (c : Rb) (q : Qn) (hh : Bool) (l : List Fd) (w : World) (h : RbAt w vc vr vf ys c) (hl : Sl w vl l.length (l.flatMap fdC)) : Calls Try.prog 14 #[rbV vc vr vf, qnV q, .bool hh, vl] w fun e w' => e = .returned (.bool (checkB c q hh l)) ∧ Fr [] w w' := by
  obtain ⟨ac, pc, rfl⟩ := h.cls.sl.val
  obtain ⟨ar, pr, rfl⟩ := h.rps.val
  obtain ⟨af, pf, rfl⟩ := h.fas.val
  obtain ⟨al, pl, rfl⟩ := hl.val
  obtain ⟨th, sa, at_, kn⟩ := q
  have A2 := alloc2' w (.cells #[.slice ac ys.length pc, .slice ar c.rps.length pr, .slice af c.fas.length pf] 32) (.cells #[.int .i64 th, .int .i64 sa, .int .i64 at_, .int .i64 kn] 40)
  have F2 : Fr [] w ((w.alloc (.cells #[.slice ac ys.length pc, .slice ar c.rps.length pr, .slice af c.fas.length pf] 32)).alloc (.cells #[.int .i64 th, .int .i64 sa, .int .i64 at_, .int .i64 kn] 40)) := (Fr.alloc _ _ _).trans (Fr.alloc _ _ _)
  have CO := Lib.hid (open_c _ _ _ ys c ⟨th, sa, at_, kn⟩ _ (h.same F2))
  have HA := Lib.hid A2; have HF := Lib.hid F2; have HL := Lib.hid hl; clear A2 F2 h hl
  unfold rbV qnV at *
  simp only at CO ⊢
  go_enter Try.func14, Try.ntmps14
  go_wp2_with fail
  refine CO.out.mono ?_
  rintro e w1 ⟨f1, h1⟩
  have K1 := f1.keep HA.out.2 (by simp)
  have c1 : w1.cell? ⟨w.heap.size + 1, 1, none⟩ = some (.int .i64 sa) := cell_of_blk K1 1
  have F1 := Lib.hid (HF.out.trans f1)
  clear K1 f1 CO
  rcases h1 with ⟨ho, p, rfl⟩ | ⟨ho, J, D, rfl, hJ, hD, rfl, e2, e3, _, _, _⟩
  · have hc : checkB c ⟨th, sa, at_, kn⟩ hh l = false := by simp [checkB, ho]
    have HC := Lib.hid hc
    clear hc ho
    go_wp2_with fail
    go_ret
    exact ⟨by rw [HC.out]; rfl, F1.out⟩
  · have hc : checkB J.c ⟨th, sa, at_, kn⟩ hh l = provesB J.c J.fs J.cs sa hh l := by simp only [checkB, ho, Bool.true_and, e2, e3]
    have HC := Lib.hid hc
    have CP := Lib.hid (proves_c J sa hh _ l w1 hJ (HL.out.same F1.out))
    clear hc ho hJ hD e2 e3
    go_wp2_with (first | (go_at_call 25; refine CP.out.mono ?_; rintro e w2 ⟨rfl, f2⟩; have F2 := Lib.hid f2; clear f2))
    go_ret
    exact ⟨by rw [HC.out]; rfl, F1.out.trans F2.out⟩

end Go.Proofs.Ytfidioedjmjddaa
