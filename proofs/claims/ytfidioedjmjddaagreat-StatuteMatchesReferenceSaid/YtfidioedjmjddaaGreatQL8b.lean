/-
  dialtonelaw08: sane.
-/
import Derived.Test.YtfidioedjmjddaaGreatQL8a
namespace Go.Proofs.YtfidioedjmjddaaGreat
open Go.RowKit Go.Lib

abbrev exW (w : World) (ac af : Nat) : World := ((w.alloc (.cells #[.slice (some ⟨ac, 0, none⟩) 2 2, .slice none 0 0, .slice (some ⟨af, 0, none⟩) 2 2] 30)).alloc (.cells #[.int .i64 7, .int .i64 3, .int .i64 400, .int .i64 400] 33)).alloc (.cells #[.int .i64 7, .int .i64 3, .int .i64 700, .int .i64 650] 33)
theorem exW_cells {w W : World} {ac af : Nat} (h : Fr [] (exW w ac af) W) :
    W.cell? ⟨w.heap.size, 0, none⟩ = some (.slice (some ⟨ac, 0, none⟩) 2 2) ∧ W.cell? ⟨w.heap.size, 1, none⟩ = some (.slice none 0 0) ∧ W.cell? ⟨w.heap.size, 2, none⟩ = some (.slice (some ⟨af, 0, none⟩) 2 2) ∧
    (W.cell? ⟨w.heap.size + 1, 0, none⟩ = some (.int .i64 7) ∧ W.cell? ⟨w.heap.size + 1, 1, none⟩ = some (.int .i64 3) ∧ W.cell? ⟨w.heap.size + 1, 2, none⟩ = some (.int .i64 400) ∧ W.cell? ⟨w.heap.size + 1, 3, none⟩ = some (.int .i64 400)) ∧
    (W.cell? ⟨w.heap.size + 1 + 1, 0, none⟩ = some (.int .i64 7) ∧ W.cell? ⟨w.heap.size + 1 + 1, 1, none⟩ = some (.int .i64 3) ∧ W.cell? ⟨w.heap.size + 1 + 1, 2, none⟩ = some (.int .i64 700) ∧ W.cell? ⟨w.heap.size + 1 + 1, 3, none⟩ = some (.int .i64 650)) := by
  have hs : ∀ (w : World) (o : Obj), (w.alloc o).heap.size = w.heap.size + 1 := fun w o => Array.size_push ..
  have a0 : (exW w ac af).heap[w.heap.size]? = some (.cells #[.slice (some ⟨ac, 0, none⟩) 2 2, .slice none 0 0, .slice (some ⟨af, 0, none⟩) 2 2] 30 (0, 0)) := heap_alloc_old _ (heap_alloc_old _ (heap_alloc_new _ _))
  have a1 : (exW w ac af).heap[w.heap.size + 1]? = some (.cells #[.int .i64 7, .int .i64 3, .int .i64 400, .int .i64 400] 33 (0, 0)) := by
    have := heap_alloc_new (w.alloc (.cells #[.slice (some ⟨ac, 0, none⟩) 2 2, .slice none 0 0, .slice (some ⟨af, 0, none⟩) 2 2] 30)) (.cells #[.int .i64 7, .int .i64 3, .int .i64 400, .int .i64 400] 33)
    rw [hs] at this
    exact heap_alloc_old _ this
  have a2 : (exW w ac af).heap[w.heap.size + 1 + 1]? = some (.cells #[.int .i64 7, .int .i64 3, .int .i64 700, .int .i64 650] 33 (0, 0)) := by
    have := heap_alloc_new ((w.alloc (.cells #[.slice (some ⟨ac, 0, none⟩) 2 2, .slice none 0 0, .slice (some ⟨af, 0, none⟩) 2 2] 30)).alloc (.cells #[.int .i64 7, .int .i64 3, .int .i64 400, .int .i64 400] 33)) (.cells #[.int .i64 7, .int .i64 3, .int .i64 700, .int .i64 650] 33)
    rw [hs, hs] at this
    exact this
  have k0 := h.keep a0 (by simp)
  have k1 := h.keep a1 (by simp)
  have k2 := h.keep a2 (by simp)
  exact ⟨cell_of_blk k0 0, cell_of_blk k0 1, cell_of_blk k0 2, ⟨cell_of_blk k1 0, cell_of_blk k1 1, cell_of_blk k1 2, cell_of_blk k1 3⟩, cell_of_blk k2 0, cell_of_blk k2 1, cell_of_blk k2 2, cell_of_blk k2 3⟩

/-- Decide at rules and a question that are right. -/
theorem decide_ok {vc vr vf : Value} {ys : List ClV} {c : Rb} {q : Qn} {w : World} (h : RbAt w vc vr vf ys c) (ho : okB c q = true) (a : Bool) (l : List Fd) (ha : decideA c q = a) (hl : decideL c q = l) :
    Calls Tryz.prog 11 #[rbV vc vr vf, qnV q] w fun e w' => Fr [] w w' ∧ ∃ v, e = .returned (.tuple #[.bool a, v, .int .i64 0]) ∧ FdRow w' v l ∧ ∀ g, v.ownBlock = some g → w.heap.size ≤ g := by
  subst ha hl
  refine (decide_c vc vr vf ys c q w h).mono ?_
  rintro e w' ⟨h1, h2 | h2⟩
  · rw [h2.1] at ho; cases ho
  · obtain ⟨_, v, h3⟩ := h2
    exact ⟨h1, v, h3⟩

abbrev exR6 (w : World) (ac af : Nat) : World := (w.alloc (.cells #[.slice (some ⟨ac, 0, none⟩) 2 2, .slice (some ⟨w.heap.size + 1, 0, none⟩) 1 1, .slice (some ⟨af, 0, none⟩) 2 2] 30)).alloc (.cells #[.int .i64 0, .int .i64 350, .int .i64 300] 60)
theorem exR_at {w : World} {ac af : Nat} {ys : List ClV} (h : RbAt w (.slice (some ⟨ac, 0, none⟩) 2 2) (.slice none 0 0) (.slice (some ⟨af, 0, none⟩) 2 2) ys exC) : RbAt (exR6 w ac af) (.slice (some ⟨ac, 0, none⟩) 2 2) (.slice (some ⟨w.heap.size + 1, 0, none⟩) 1 1) (.slice (some ⟨af, 0, none⟩) 2 2) ys exR := by
  have h2 := h.same ((Fr.alloc [] w (.cells #[.slice (some ⟨ac, 0, none⟩) 2 2, .slice (some ⟨w.heap.size + 1, 0, none⟩) 1 1, .slice (some ⟨af, 0, none⟩) 2 2] 30)).trans (Fr.alloc [] _ (.cells #[.int .i64 0, .int .i64 350, .int .i64 300] 60)))
  refine ⟨h2.eq, h2.cls, sl_blk (alloc2' _ _ _).2 rfl (by omega) (by omega), h2.fas, h2.ok.cls, fun x hx => ?_, h2.ok.fas⟩
  simp only [exR, List.mem_cons, List.not_mem_nil, or_false] at hx
  subst hx
  constructor <;> simp [I64]

theorem zero_at (w : World) : RbAt (w.alloc (.cells #[.int .i64 0, .int .i64 0, .int .i64 0, .slice none 0 0, .slice none 0 0, .int .i64 0] 67)) (.slice (some ⟨w.heap.size, 0, none⟩) 1 1) (.slice none 0 0) (.slice none 0 0) [⟨⟨0, 0, 0, [], [], 0⟩, .slice none 0 0, .slice none 0 0⟩] ⟨[⟨0, 0, 0, [], [], 0⟩], [], []⟩ := by
  refine ⟨rfl, ⟨sl_blk (heap_alloc_new _ _) rfl (by simp) (by omega), fun y hy => ?_, fun y hy => ?_⟩, Sl.nil _, Sl.nil _, fun x hx => ?_, fun x hx => ?_, fun x hx => ?_⟩
  · simp only [List.mem_cons, List.not_mem_nil, or_false] at hy
    subst hy; exact Sl.nil _
  · simp only [List.mem_cons, List.not_mem_nil, or_false] at hy
    subst hy; exact Sl.nil _
  · simp only [List.mem_cons, List.not_mem_nil, or_false] at hx
    subst hx; constructor <;> simp [I64]
  · simp at hx
  · simp at hx

set_option maxRecDepth 1000000 in
set_option maxHeartbeats 4000000 in
theorem sane8_c (w : World) : Calls Tryz.prog 4 #[] w fun e w' => e = .returned (.bool true) ∧ Fr [] w w' := by
  have CX := Lib.hid (example_c w)
  go_enter Tryz.func4, Tryz.ntmps4
  go_wp2_with fail
  refine CX.out.mono ?_
  rintro e w1 ⟨f1, ac, af, ys, rfl, hys, hR⟩
  have F1 := Lib.hid f1; have HY := Lib.hid hys
  have HR : Hid (∀ W, Fr [] (exW w1 ac af) W → RbAt W (.slice (some ⟨ac, 0, none⟩) 2 2) (.slice none 0 0) (.slice (some ⟨af, 0, none⟩) 2 2) ys exC) := Lib.hid fun W hf => hR.same ((((Fr.alloc _ _ _).trans (Fr.alloc _ _ _)).trans (Fr.alloc _ _ _)).trans hf)
  have HX : Hid (∀ W, Fr [] (exW w1 ac af) W → _) := Lib.hid fun W hf => exW_cells hf
  have C1 := Lib.hid (decide_ok (HR.out _ (Fr.refl _ _)) ex_ok1 true ex1 ex_a1 ex_l1)
  clear f1 hys hR CX
  unfold rbV
  go_wp2_with fail
  refine C1.out.mono ?_
  rintro e w2 ⟨f2, v5, rfl, r5, n5⟩
  obtain ⟨p5, o5, rfl⟩ := (sl_of_row r5).val
  have F2 := Lib.hid f2; have R5 := Lib.hid (sl_of_row r5)
  have C2 := Lib.hid (decide_ok (HR.out _ f2) ex_ok2 false ex2 ex_a2 ex_l2)
  obtain ⟨c0, c1, c2, ⟨q0, q1, q2, q3⟩, g0, g1, g2, g3⟩ := exW_cells f2
  clear f2 r5 n5 C1
  go_wp2_with fail
  refine C2.out.mono ?_
  rintro e w3 ⟨f3, v8, rfl, r8, n8⟩
  clear c0 c1 c2 q0 q1 q2 q3 g0 g1 g2 g3
  obtain ⟨p8, o8, rfl⟩ := (sl_of_row r8).val
  have f3' := F2.out.trans f3
  have F3 := Lib.hid f3'; have G3 := Lib.hid f3; have R8 := Lib.hid (sl_of_row r8)
  have C3 := Lib.hid (decide_ok (HR.out _ f3') ex_ok3 true _ ex_a3 rfl)
  obtain ⟨c0, c1, c2, ⟨q0, q1, q2, q3⟩, g0, g1, g2, g3⟩ := exW_cells f3'
  clear f3 f3' r8 n8 C2
  go_wp2_with fail
  refine C3.out.mono ?_
  rintro e w4 ⟨f4, v11, rfl, r11, n11⟩
  clear c0 c1 c2 q0 q1 q2 q3 g0 g1 g2 g3
  obtain ⟨p11, o11, rfl⟩ := (sl_of_row r11).val
  have f4' := F3.out.trans f4
  have F4 := Lib.hid f4'; have G4 := Lib.hid f4
  have C4 := Lib.hid (decide_ok (HR.out _ f4') ex_ok4 false _ ex_a4 ex_l4)
  obtain ⟨c0, c1, c2, ⟨q0, q1, q2, q3⟩, g0, g1, g2, g3⟩ := exW_cells f4'
  clear f4 f4' r11 n11 C3
  generalize (decideL exC ⟨7, 3, 700, 550⟩).length = n11 at *
  go_wp2_with fail
  refine C4.out.mono ?_
  rintro e w5 ⟨f5, v14, rfl, r14, n14⟩
  clear c0 c1 c2 q0 q1 q2 q3 g0 g1 g2 g3
  obtain ⟨p14, o14, rfl⟩ := (sl_of_row r14).val
  have f5' := F4.out.trans f5
  have F5 := Lib.hid f5'; have G5 := Lib.hid f5; have R14 := Lib.hid (sl_of_row r14)
  have C5 := Lib.hid (decide_ok (HR.out _ f5') ex_ok5 false _ ex_a5 rfl)
  obtain ⟨c0, c1, c2, ⟨q0, q1, q2, q3⟩, g0, g1, g2, g3⟩ := exW_cells f5'
  clear f5 f5' r14 n14 C4
  go_wp2_with fail
  refine C5.out.mono ?_
  rintro e w6 ⟨f6, v17, rfl, r17, n17⟩
  clear c0 c1 c2 q0 q1 q2 q3 g0 g1 g2 g3
  obtain ⟨p17, o17, rfl⟩ := (sl_of_row r17).val
  have f6' := F5.out.trans f6
  have FR2 : Hid (Fr [] w3 (exR6 w6 ac af)) := Lib.hid (((G4.out.trans G5.out).trans f6).trans ((Fr.alloc _ _ _).trans (Fr.alloc _ _ _)))
  have F6 := Lib.hid f6'; have G6 := Lib.hid f6; have GR : Hid (Fr [] w6 (exR6 w6 ac af)) := Lib.hid ((Fr.alloc _ _ _).trans (Fr.alloc _ _ _))
  obtain ⟨c0, c1, c2, _, _⟩ := exW_cells f6'
  have fR : Fr [] (exW w1 ac af) (exR6 w6 ac af) := f6'.trans ((Fr.alloc _ _ _).trans (Fr.alloc _ _ _))
  obtain ⟨_, _, _, ⟨q0, q1, q2, q3⟩, _⟩ := exW_cells fR
  unfold exR6 at q0 q1 q2 q3
  have FR := Lib.hid fR
  have C6 : Hid (Calls Tryz.prog 11 #[.agg #[.slice (some ⟨ac, 0, none⟩) 2 2, .slice (some ⟨w6.heap.size + 1, 0, none⟩) 1 1, .slice (some ⟨af, 0, none⟩) 2 2], qnV exQ] (exR6 w6 ac af) _) := Lib.hid (decide_ok (exR_at (HR.out _ f6')) ex_ok6 false _ ex_a6 rfl)
  clear f6 f6' r17 n17 C5 fR
  generalize (decideL exC ⟨7, 3, 400, 120⟩).length = n17 at *
  go_wp2_with fail
  refine C6.out.mono ?_
  clear c0 c1 c2 q0 q1 q2 q3
  rintro e w7 ⟨f7, v21, rfl, r21, n21⟩
  obtain ⟨p21, o21, rfl⟩ := (sl_of_row r21).val
  have f7' := FR.out.trans f7
  have F7 := Lib.hid f7'; have G7 := Lib.hid f7
  obtain ⟨c0, c1, c2, ⟨q0, q1, q2, q3⟩, g0, g1, g2, g3⟩ := exW_cells f7'
  have R8' := R8.out.same (FR2.out.trans f7)
  have C7 := Lib.hid (uses_c _ _ _ _ ys exC exL ex2 _ (HR.out _ f7') R8')
  clear f7 f7' r21 n21 C6 R8'
  generalize (decideL exR exQ).length = n21 at *
  unfold rbV at C7
  go_wp2_with fail
  refine C7.out.mono ?_
  clear c0 c1 c2 q0 q1 q2 q3 g0 g1 g2 g3
  rintro e w8 ⟨f8, hu | hu⟩
  · exact absurd ex_u (by rw [hu.1]; simp)
  obtain ⟨_, v23, v24, rfl, u8⟩ := hu
  rw [ex_uf, ex_uc] at u8
  have f8' := F7.out.trans f8
  have F8 := Lib.hid f8'; have G8 := Lib.hid f8
  obtain ⟨p23, o23, rfl⟩ := (sl_of_row u8.r1).val
  obtain ⟨p24, o24, rfl⟩ := (sl_of_row u8.r2).val
  have R23 : Hid (IntsAt w8 _ [1]) := Lib.hid (sl_of_row u8.r1)
  have R24 : Hid (IntsAt w8 _ [0, 1]) := Lib.hid (sl_of_row u8.r2)
  obtain ⟨c0, c1, c2, ⟨q0, q1, q2, q3⟩, g0, g1, g2, g3⟩ := exW_cells f8'
  have C8 := Lib.hid (applies_c _ _ _ ys exC exQ _ (HR.out _ f8'))
  clear f8 f8' u8 C7
  unfold rbV at C8
  go_wp2_with fail
  refine C8.out.mono ?_
  clear c0 c1 c2 q0 q1 q2 q3 g0 g1 g2 g3
  rintro e w9 ⟨f9, hu | hu⟩
  · exact absurd ex_ok1 (by rw [hu.1]; simp)
  obtain ⟨_, v26, v27, rfl, u1, u2, _, _⟩ := hu
  rw [ex_f] at u1
  rw [ex_c] at u2
  have f9' := F8.out.trans f9
  have F9 := Lib.hid f9'; have G9 := Lib.hid f9
  obtain ⟨p26, o26, rfl⟩ := (sl_of_row u1).val
  obtain ⟨p27, o27, rfl⟩ := (sl_of_row u2).val
  have R26 : Hid (IntsAt w9 _ [0]) := Lib.hid (sl_of_row u1)
  have R27 : Hid (IntsAt w9 _ [0, 1]) := Lib.hid (sl_of_row u2)
  clear f9 f9' u1 u2 C8
  have A9 := alloc2' w9 (.cells #[.int .i64 0, .bool true, .int .i64 0, .int .i64 (-1), .int .i64 2, .bool false, .int .i64 (-1), .int .i64 (-1), .int .i64 3, .bool true, .int .i64 (-1), .int .i64 0] 62) (.cells #[.int .i64 1, .bool false, .int .i64 (-1), .int .i64 (-1), .int .i64 2, .bool true, .int .i64 1, .int .i64 (-1), .int .i64 3, .bool false, .int .i64 (-1), .int .i64 (-1)] 62)
  have FA : Hid (Fr [] w9 ((w9.alloc (.cells #[.int .i64 0, .bool true, .int .i64 0, .int .i64 (-1), .int .i64 2, .bool false, .int .i64 (-1), .int .i64 (-1), .int .i64 3, .bool true, .int .i64 (-1), .int .i64 0] 62)).alloc (.cells #[.int .i64 1, .bool false, .int .i64 (-1), .int .i64 (-1), .int .i64 2, .bool true, .int .i64 1, .int .i64 (-1), .int .i64 3, .bool false, .int .i64 (-1), .int .i64 (-1)] 62))) := Lib.hid ((Fr.alloc _ _ _).trans (Fr.alloc _ _ _))
  have S1 : Hid (Sl _ (.slice (some ⟨w9.heap.size, 0, none⟩) 3 3) ex1.length (ex1.flatMap fdC)) := Lib.hid (sl_blk A9.1 rfl (by omega) (by omega))
  have S2 : Hid (Sl _ (.slice (some ⟨w9.heap.size + 1, 0, none⟩) 3 3) ex2.length (ex2.flatMap fdC)) := Lib.hid (sl_blk A9.2 rfl (by omega) (by omega))
  have X59 : Hid (Fr [] w5 w9) := Lib.hid ((((((G6.out.trans GR.out).trans G7.out).trans G8.out)).trans G9.out))
  have X39 : Hid (Fr [] w3 w9) := Lib.hid ((G4.out.trans G5.out).trans X59.out)
  have X29 : Hid (Fr [] w2 w9) := Lib.hid (G3.out.trans X39.out)
  have C9 := Lib.hid (same_c _ _ ex1 _ (R5.out.same (X29.out.trans FA.out)) S1.out)
  clear A9
  go_wp2_with fail
  refine C9.out.mono ?_
  rintro e w10 ⟨rfl, f10⟩
  have Y10 := Lib.hid (FA.out.trans f10); have Z10 := Lib.hid f10; clear C9
  have C10 := Lib.hid (same_c _ _ ex2 _ (R8.out.same (X39.out.trans Y10.out)) (S2.out.same f10))
  clear f10
  go_wp2_with fail
  refine C10.out.mono ?_
  rintro e w11 ⟨rfl, f11⟩
  have Y11 := Lib.hid (Y10.out.trans f11); have Z11 := Lib.hid (Z10.out.trans f11); clear f11 C10
  have FB : Hid (Fr [] w11 (w11.alloc (.cells #[.int .i64 3, .bool false, .int .i64 (-1), .int .i64 (-1)] 62))) := Lib.hid (Fr.alloc _ _ _)
  have C11 := Lib.hid (same_c _ _ [⟨3, false, -1, -1⟩] _ (R14.out.same ((X59.out.trans Y11.out).trans FB.out)) (sl_blk (heap_alloc_new w11 (.cells #[.int .i64 3, .bool false, .int .i64 (-1), .int .i64 (-1)] 62)) rfl (Nat.le_refl 1) (by omega)))
  go_wp2_with fail
  refine C11.out.mono ?_
  rintro e w12 ⟨rfl, f12⟩
  have Y12 := Lib.hid ((Y11.out.trans FB.out).trans f12); have Z12 := Lib.hid ((Z11.out.trans FB.out).trans f12); clear f12 C11
  obtain ⟨c0, c1, c2, ⟨q0, q1, q2, q3⟩, g0, g1, g2, g3⟩ := exW_cells (F9.out.trans Y12.out)
  have C12 : Hid (Calls Tryz.prog 21 #[.agg #[.slice (some ⟨ac, 0, none⟩) 2 2, .slice none 0 0, .slice (some ⟨af, 0, none⟩) 2 2], qnV exQ, .bool true, _] w12 _) := Lib.hid (check_c _ _ _ _ ys exC exQ true ex1 _ (HR.out _ (F9.out.trans Y12.out)) (S1.out.same Z12.out))
  rw [ex_k1] at C12
  go_wp2_with fail
  refine C12.out.mono ?_
  clear c0 c1 c2 q0 q1 q2 q3 g0 g1 g2 g3
  rintro e w13 ⟨rfl, f13⟩
  have Y13 := Lib.hid (Y12.out.trans f13); have Z13 := Lib.hid (Z12.out.trans f13); clear f13 C12
  obtain ⟨c0, c1, c2, ⟨q0, q1, q2, q3⟩, g0, g1, g2, g3⟩ := exW_cells (F9.out.trans Y13.out)
  have C13 : Hid (Calls Tryz.prog 21 #[.agg #[.slice (some ⟨ac, 0, none⟩) 2 2, .slice none 0 0, .slice (some ⟨af, 0, none⟩) 2 2], qnV exQ, .bool false, _] w13 _) := Lib.hid (check_c _ _ _ _ ys exC exQ false ex1 _ (HR.out _ (F9.out.trans Y13.out)) (S1.out.same Z13.out))
  rw [ex_k2] at C13
  go_wp2_with fail
  refine C13.out.mono ?_
  clear c0 c1 c2 q0 q1 q2 q3 g0 g1 g2 g3
  rintro e w14 ⟨rfl, f14⟩
  have Y14 := Lib.hid (Y13.out.trans f14); have Z14 := Lib.hid (Z13.out.trans f14); clear f14 C13
  obtain ⟨c0, c1, c2, ⟨q0, q1, q2, q3⟩, g0, g1, g2, g3⟩ := exW_cells (F9.out.trans Y14.out)
  have C14 : Hid (Calls Tryz.prog 21 #[.agg #[.slice (some ⟨ac, 0, none⟩) 2 2, .slice none 0 0, .slice (some ⟨af, 0, none⟩) 2 2], qnV exL, .bool true, _] w14 _) := Lib.hid (check_c _ _ _ _ ys exC exL true ex1 _ (HR.out _ (F9.out.trans Y14.out)) (S1.out.same Z14.out))
  rw [ex_k3] at C14
  go_wp2_with fail
  refine C14.out.mono ?_
  clear c0 c1 c2 q0 q1 q2 q3 g0 g1 g2 g3
  rintro e w15 ⟨rfl, f15⟩
  have Y15 := Lib.hid (Y14.out.trans f15); have Z15 := Lib.hid (Z14.out.trans f15); clear f15 C14
  obtain ⟨c0, c1, c2, ⟨q0, q1, q2, q3⟩, g0, g1, g2, g3⟩ := exW_cells (F9.out.trans Y15.out)
  have C15 : Hid (Calls Tryz.prog 21 #[.agg #[.slice (some ⟨ac, 0, none⟩) 2 2, .slice none 0 0, .slice (some ⟨af, 0, none⟩) 2 2], qnV exL, .bool false, _] w15 _) := Lib.hid (check_c _ _ _ _ ys exC exL false ex2 _ (HR.out _ (F9.out.trans Y15.out)) (S2.out.same Z15.out))
  rw [ex_k4] at C15
  go_wp2_with fail
  refine C15.out.mono ?_
  clear c0 c1 c2 q0 q1 q2 q3 g0 g1 g2 g3
  rintro e w16 ⟨rfl, f16⟩
  have Y16 := Lib.hid (Y15.out.trans f16); have Z16 := Lib.hid (Z15.out.trans f16); clear f16 C15
  have FB : Hid (Fr [] w16 (w16.alloc (.cells #[.int .i64 1] 3))) := Lib.hid (Fr.alloc _ _ _)
  have C16 := Lib.hid (ints_c _ _ [1] [1] _ (R23.out.same ((G9.out.trans Y16.out).trans FB.out)) (sl_blk (heap_alloc_new w16 (.cells #[.int .i64 1] 3)) rfl (Nat.le_refl 1) (by omega)))
  rw [show decide (([1] : List Int) = [1]) = true from by simp] at C16
  go_wp2_with fail
  refine C16.out.mono ?_
  rintro e w17 ⟨rfl, f17⟩
  have Y17 := Lib.hid ((Y16.out.trans FB.out).trans f17); clear f17 C16 FB
  have FB : Hid (Fr [] w17 (w17.alloc (.cells #[.int .i64 0, .int .i64 1] 3))) := Lib.hid (Fr.alloc _ _ _)
  have C17 := Lib.hid (ints_c _ _ [0, 1] [0, 1] _ (R24.out.same ((G9.out.trans Y17.out).trans FB.out)) (sl_blk (heap_alloc_new w17 (.cells #[.int .i64 0, .int .i64 1] 3)) rfl (Nat.le_refl 2) (by omega)))
  rw [show decide (([0, 1] : List Int) = [0, 1]) = true from by simp] at C17
  go_wp2_with fail
  refine C17.out.mono ?_
  rintro e w18 ⟨rfl, f18⟩
  have Y18 := Lib.hid ((Y17.out.trans FB.out).trans f18); clear f18 C17 FB
  have FB : Hid (Fr [] w18 (w18.alloc (.cells #[.int .i64 0] 3))) := Lib.hid (Fr.alloc _ _ _)
  have C18 := Lib.hid (ints_c _ _ [0] [0] _ (R26.out.same ((Y18.out).trans FB.out)) (sl_blk (heap_alloc_new w18 (.cells #[.int .i64 0] 3)) rfl (Nat.le_refl 1) (by omega)))
  rw [show decide (([0] : List Int) = [0]) = true from by simp] at C18
  go_wp2_with fail
  refine C18.out.mono ?_
  rintro e w19 ⟨rfl, f19⟩
  have Y19 := Lib.hid ((Y18.out.trans FB.out).trans f19); clear f19 C18 FB
  have FB : Hid (Fr [] w19 (w19.alloc (.cells #[.int .i64 0, .int .i64 1] 3))) := Lib.hid (Fr.alloc _ _ _)
  have C19 := Lib.hid (ints_c _ _ [0, 1] [0, 1] _ (R27.out.same ((Y19.out).trans FB.out)) (sl_blk (heap_alloc_new w19 (.cells #[.int .i64 0, .int .i64 1] 3)) rfl (Nat.le_refl 2) (by omega)))
  rw [show decide (([0, 1] : List Int) = [0, 1]) = true from by simp] at C19
  go_wp2_with fail
  refine C19.out.mono ?_
  rintro e w20 ⟨rfl, f20⟩
  have Y20 := Lib.hid ((Y19.out.trans FB.out).trans f20); clear f20 C19 FB
  obtain ⟨c0, c1, c2, ⟨q0, q1, q2, q3⟩, g0, g1, g2, g3⟩ := exW_cells (F9.out.trans Y20.out)
  have C20 := Lib.hid (valid_c _ _ _ ys exC _ (HR.out _ (F9.out.trans Y20.out)))
  rw [ex_v] at C20
  unfold rbV at C20
  go_wp2_with fail
  refine C20.out.mono ?_
  clear c0 c1 c2 q0 q1 q2 q3 g0 g1 g2 g3
  rintro e w21 ⟨rfl, f21⟩
  have Y21 := Lib.hid (Y20.out.trans f21); clear f21 C20
  have FB : Hid (Fr [] w21 (w21.alloc (.cells #[.int .i64 0, .int .i64 0, .int .i64 0, .slice none 0 0, .slice none 0 0, .int .i64 0] 67))) := Lib.hid (Fr.alloc _ _ _)
  have C21 := Lib.hid (valid_c _ _ _ _ _ _ (zero_at w21))
  rw [ex_v0] at C21
  unfold rbV at C21
  go_wp2_with fail
  refine C21.out.mono ?_
  rintro e w22 ⟨rfl, f22⟩
  have Y22 := Lib.hid ((Y21.out.trans FB.out).trans f22); clear f22 C21
  obtain ⟨_, _, _, ⟨q0, q1, q2, q3⟩, _⟩ := exW_cells (F9.out.trans Y22.out)
  have C22 := Lib.hid (asks_c exQ w22)
  rw [ex_q] at C22
  go_wp2_with fail
  refine C22.out.mono ?_
  clear q0 q1 q2 q3
  rintro e w23 ⟨rfl, f23⟩
  have Y23 := Lib.hid (Y22.out.trans f23); clear f23 C22
  have C23 := Lib.hid (asks_c ⟨0, 0, -1, 0⟩ w23)
  rw [ex_q0] at C23
  go_wp2_with fail
  refine C23.out.mono ?_
  rintro e w24 ⟨rfl, f24⟩
  go_wp2_with fail
  go_ret
  exact ⟨rfl, (((F1.out.trans (((Fr.alloc _ _ _).trans (Fr.alloc _ _ _)).trans (Fr.alloc _ _ _))).trans F9.out).trans Y23.out).trans f24⟩

end Go.Proofs.YtfidioedjmjddaaGreat
