/-
  dialtoneref08: right.
-/
import Derived.Test.YtfidioedjmjddaaGreatQRg5
import Derived.Test.YtfidioedjmjddaaGreatQRA
namespace Go.Proofs.YtfidioedjmjddaaGreat
open Go.RowKit Go.Lib

theorem any_range {α : Type} (p : α → Bool) (d : α) (l : List α) : (List.range l.length).any (fun i => p (l.getD i d)) = l.any p := by
  rw [Bool.eq_iff_iff, List.any_eq_true, List.any_eq_true]
  constructor
  · rintro ⟨i, hi, hp⟩
    have hl : i < l.length := by simpa using hi
    exact ⟨l[i], List.getElem_mem hl, by simpa [hl] using hp⟩
  · rintro ⟨x, hx, hp⟩
    obtain ⟨i, hi, rfl⟩ := List.getElem_of_mem hx
    exact ⟨i, by simpa using hi, by simpa [hi] using hp⟩
theorem pickN_any (p : Nat → Bool) (n : Nat) (f : Int → Bool) : (pickN p n).any f = (List.range n).any (fun i => p i && f i) := by
  unfold pickN
  rw [List.any_map, List.any_filter]
  rfl
def factI (q : Qn) (n : Int) (x : Fa) : Bool := statesB x q && decide (x.says = n)
theorem facts_any (c : Rb) (q : Qn) (n : Int) : (factsOf c q).any (fun i => decide ((c.fa i).says = n)) = c.fas.any (factI q n) := by
  unfold factsOf
  rw [pickN_any]
  exact any_range (factI q n) default c.fas
theorem pickN_has (p : Nat → Bool) (n i : Nat) : (pickN p n).contains (i : Int) = (decide (i < n) && p i) := by
  rw [Bool.eq_iff_iff, List.contains_iff_mem, pickN_mem]
  simp only [Bool.and_eq_true, decide_eq_true_eq]
  constructor
  · rintro ⟨j, h1, h2, h3⟩
    obtain rfl : i = j := by omega
    exact ⟨h1, h2⟩
  · rintro ⟨h1, h2⟩; exact ⟨i, h1, h2, rfl⟩
theorem pickN_out (p : Nat → Bool) (n : Nat) (x : Int) (h : isInB x 0 ((n : Int) - 1) = false) : (pickN p n).contains x = false := by
  cases hh : (pickN p n).contains x with
  | false => rfl
  | true =>
    exfalso
    have := pickN_lt (List.contains_iff_mem.1 hh)
    have h2 : isInB x 0 ((n : Int) - 1) = true := isInB_iff.2 (by omega)
    rw [h] at h2; cases h2
/-- Does a clause stand against what is not so? -/
def clauseI (c : Rb) (q : Qn) (n : Int) (l : List Fd) (i : Nat) : Bool := rulesB c q i && (decide ((c.cl i).gives = n) && !barredB c l i)

set_option maxRecDepth 1000000 in
set_option maxHeartbeats 4000000 in
theorem rightA_c (vc vr vf vl : Value) (ys : List ClV) (c : Rb) (q : Qn) (xs xfa : Int) (l : List Fd) (w : World) (h : RbAt w vc vr vf ys c) (hl : Sl w vl l.length (l.flatMap fdC)) :
    Calls Tryz.prog 55 #[rbV vc vr vf, qnV q, .agg #[.int .i64 xs, .bool true, .int .i64 xfa, .int .i64 (-1)], vl] w fun e w' => e = .returned (.bool (rightB c (factsOf c q) (clausesOf c q) ⟨xs, true, xfa, -1⟩ l)) ∧ Fr [] w w' := by
  obtain ⟨ac, pc, rfl⟩ := h.cls.sl.val
  obtain ⟨ar, pr, rfl⟩ := h.rps.val
  obtain ⟨af, pf, rfl⟩ := h.fas.val
  have hyl := h.cls.sl.len; have hrl := h.rps.len; have hfl := h.fas.len
  have hcl : c.cls.length = ys.length := by rw [h.eq, List.length_map]
  obtain ⟨th, sa, at_, kn⟩ := q
  have HR := Lib.hid h
  clear h
  have HL := Lib.hid hl
  clear hl
  have A2 := allocs_at [.cells #[.slice ac ys.length pc, .slice ar c.rps.length pr, .slice af c.fas.length pf] 30, .cells #[.int .i64 th, .int .i64 sa, .int .i64 at_, .int .i64 kn] 33, .cells #[.int .i64 xs, .bool true, .int .i64 xfa, .int .i64 (-1)] 62] w
  have F2 := allocs_fr [.cells #[.slice ac ys.length pc, .slice ar c.rps.length pr, .slice af c.fas.length pf] 30, .cells #[.int .i64 th, .int .i64 sa, .int .i64 at_, .int .i64 kn] 33, .cells #[.int .i64 xs, .bool true, .int .i64 xfa, .int .i64 (-1)] 62] w
  have HB : Hid (∀ W, Fr [] (((w.alloc (.cells #[.slice ac ys.length pc, .slice ar c.rps.length pr, .slice af c.fas.length pf] 30)).alloc (.cells #[.int .i64 th, .int .i64 sa, .int .i64 at_, .int .i64 kn] 33)).alloc (.cells #[.int .i64 xs, .bool true, .int .i64 xfa, .int .i64 (-1)] 62)) W → W.heap[w.heap.size]? = some (.cells #[.slice ac ys.length pc, .slice ar c.rps.length pr, .slice af c.fas.length pf] 30) ∧ W.heap[w.heap.size + 1]? = some (.cells #[.int .i64 th, .int .i64 sa, .int .i64 at_, .int .i64 kn] 33) ∧ W.heap[w.heap.size + 1 + 1]? = some (.cells #[.int .i64 xs, .bool true, .int .i64 xfa, .int .i64 (-1)] 62)) := Lib.hid fun W hf => ⟨hf.keep (A2 0 (by simp)) (by simp), hf.keep (A2 1 (by simp)) (by simp), hf.keep (A2 2 (by simp)) (by simp)⟩
  have HF2 : Hid (Fr [] w (((w.alloc (.cells #[.slice ac ys.length pc, .slice ar c.rps.length pr, .slice af c.fas.length pf] 30)).alloc (.cells #[.int .i64 th, .int .i64 sa, .int .i64 at_, .int .i64 kn] 33)).alloc (.cells #[.int .i64 xs, .bool true, .int .i64 xfa, .int .i64 (-1)] 62))) := Lib.hid F2
  clear A2 F2
  go_enter Tryz.func55, Tryz.ntmps55
  go_upto_region 1 with fail
  generalize (((w.alloc (.cells #[.slice ac ys.length pc, .slice ar c.rps.length pr, .slice af c.fas.length pf] 30)).alloc (.cells #[.int .i64 th, .int .i64 sa, .int .i64 at_, .int .i64 kn] 33)).alloc (.cells #[.int .i64 xs, .bool true, .int .i64 xfa, .int .i64 (-1)] 62)) = W0 at *
  have HX : Hid (rightB c (factsOf c ⟨th, sa, at_, kn⟩) (clausesOf c ⟨th, sa, at_, kn⟩) ⟨xs, true, xfa, -1⟩ l = ((factsOf c ⟨th, sa, at_, kn⟩).contains xfa && decide ((c.fa xfa).says = xs))) := Lib.hid rfl
  have bk := HB.out _ (Fr.refl _ _)
  have b0 := cell_of_blk bk.1 0; have b1 := cell_of_blk bk.1 1; have b2 := cell_of_blk bk.1 2
  have q0 := cell_of_blk bk.2.1 0; have q1 := cell_of_blk bk.2.1 1; have q2 := cell_of_blk bk.2.1 2; have q3 := cell_of_blk bk.2.1 3
  have d0 := cell_of_blk bk.2.2 0; have d1 := cell_of_blk bk.2.2 1; have d2 := cell_of_blk bk.2.2 2; have d3 := cell_of_blk bk.2.2 3
  clear bk
  go_wp2_with fail
  cases hin : isInB xfa 0 ((c.fas.length : Int) - 1) with
  | false =>
    have HO := Lib.hid (pickN_out (fun i => statesB (c.fas.getD i default) ⟨th, sa, at_, kn⟩) c.fas.length xfa hin)
    have CI := Lib.hid fun W => rin_c xfa 0 ((c.fas.length : Int) - 1) W
    rw [hin] at CI
    clear hin
    refine reg_mix (Fr [] W0) [0, 1, 2, 3, 4, 5, 6, 7, 8, 9, 10, 11, 12, 13, 14, 15, 16, 17, 18, 19, 20, 21, 22, 23, 24, 25, 26, 27, 28, 29, 30, 31] (by kernel_rfl) (by kernel_rfl) (by kernel_rfl) rfl (Fr.drew _ _) ?_
    have FC : Fr [] W0 W0.drew := Fr.drew _ _
    generalize W0.drew = WC at FC ⊢
    iterate 5 (refine mix_take1 (v := ?_) rfl rfl rfl rfl (fun w hS => ?_) ?_; rotate_left; (focus (have sb0 := hS.cel b0 (by simp); have sb1 := hS.cel b1 (by simp); have sb2 := hS.cel b2 (by simp); have sq0 := hS.cel q0 (by simp); have sq1 := hS.cel q1 (by simp); have sq2 := hS.cel q2 (by simp); have sq3 := hS.cel q3 (by simp); have sd0 := hS.cel d0 (by simp); have sd2 := hS.cel d2 (by simp); have sd3 := hS.cel d3 (by simp); clear hS; go_simp; rfl)); simp only [List.setIfInBounds_toArray, List.set_cons_succ, List.set_cons_zero])
    (refine mix_take1 (v := ?_) rfl rfl rfl rfl (fun w hS => ?_) ?_; rotate_left; (focus (clear hS; go_simp; rw [IntWalk.i64_in ((c.fas.length : Int) - 1) (by omega)])); simp only [List.setIfInBounds_toArray, List.set_cons_succ, List.set_cons_zero])
    refine mix_do rfl rfl rfl (fun K hK => ?_)
    go_simp
    refine (CI.out _).mono ?_
    rintro e w00 ⟨rfl, rfl⟩
    refine hK _ _ FC ?_
    clear hK K
    try simp only [Act.put, List.setIfInBounds_toArray, List.set_cons_succ, List.set_cons_zero]
    (refine mix_take1 (v := ?_) rfl rfl rfl rfl (fun w hS => ?_) ?_; rotate_left; (focus (clear hS; go_simp; rfl)); simp only [List.setIfInBounds_toArray, List.set_cons_succ, List.set_cons_zero])
    iterate 9 (refine mix_skipT rfl rfl rfl rfl rfl FC ?_; simp only [List.setIfInBounds_toArray, List.set_cons_succ, List.set_cons_zero])
    iterate 2 (refine mix_take1 (v := ?_) rfl rfl rfl rfl (fun w hS => ?_) ?_; rotate_left; (focus (clear hS; go_simp; rfl)); simp only [List.setIfInBounds_toArray, List.set_cons_succ, List.set_cons_zero])
    iterate 11 (refine mix_skipT rfl rfl rfl rfl rfl FC ?_; simp only [List.setIfInBounds_toArray, List.set_cons_succ, List.set_cons_zero])
    iterate 2 (refine mix_take1 (v := ?_) rfl rfl rfl rfl (fun w hS => ?_) ?_; rotate_left; (focus (clear hS; go_simp; rfl)); simp only [List.setIfInBounds_toArray, List.set_cons_succ, List.set_cons_zero])
    refine mix_end ?_
    clear b0 b1 b2 q0 q1 q2 q3 d0 d1 d2 d3
    go_wp2_with fail
    go_ret
    exact ⟨by rw [HX.out, show (factsOf c ⟨th, sa, at_, kn⟩).contains xfa = false from HO.out]; rfl, HF2.out.trans FC⟩
  | true =>
    obtain ⟨n, rfl⟩ := Int.eq_ofNat_of_zero_le (isInB_iff.1 hin).1
    have hn : n < c.fas.length := by have := (isInB_iff.1 hin).2; omega
    have CI := Lib.hid fun W => rin_c n 0 ((c.fas.length : Int) - 1) W
    rw [hin] at CI
    clear hin
    have hmx : max (n : Int) 0 = n := by omega
    have hmx2 : (if (n : Int) < 0 then 0 else (n : Int)) = n := by rw [if_neg (by omega)]
    have hmx3 : (if (n : Int) ≤ 0 then 0 else (n : Int)) = n := by split <;> omega
    obtain ⟨xb, xo, xcap, hv, hcl_⟩ := faRow_cells' (HR.out.same HF2.out).fas n hn
    cases hv
    have x0 := hcl_ 0 _ rfl; have x1 := hcl_ 1 _ rfl; have x2 := hcl_ 2 _ rfl; have x3 := hcl_ 3 _ rfl; have x4 := hcl_ 4 _ rfl; have x5 := hcl_ 5 _ rfl
    simp only [Nat.add_zero] at x0 x1 x2 x3 x4 x5
    obtain ⟨x, hx⟩ : ∃ x, c.fas[n] = x := ⟨_, rfl⟩
    have HXE : Hid (c.fas.getD n default = x) := Lib.hid (by rw [← hx]; simp [hn])
    rw [hx] at x0 x1 x2 x3 x4 x5
    obtain ⟨M, hM⟩ : ∃ M, statesB x ⟨th, sa, at_, kn⟩ = M := ⟨_, rfl⟩
    have CF := Lib.hid fun (W : World) => rfact_c x ⟨th, sa, at_, kn⟩ W
    rw [hM] at CF
    have HP : Hid ((factsOf c ⟨th, sa, at_, kn⟩).contains (n : Int) = M) := Lib.hid (by unfold factsOf; rw [pickN_has]; simp only [HXE.out, hM, hn, decide_true, Bool.true_and])
    have HS2 : Hid (decide ((c.fa (n : Int)).says = xs) = (x.says == xs)) := Lib.hid (by show decide ((c.fas.getD (n : Int).toNat default).says = xs) = _; rw [Int.toNat_natCast, HXE.out]; rfl)
    obtain ⟨xt, xsa, xf, xe, xkf, xkt⟩ := x
    unfold faV qnV at CF
    simp only at x0 x1 x2 x3 x4 x5 CF HS2
    obtain ⟨S, hS2⟩ : ∃ S, (xsa == xs) = S := ⟨_, rfl⟩
    rw [hS2] at HS2
    clear hx hM hcl_
    refine reg_mix (Fr [] W0) [0, 1, 2, 3, 4, 5, 6, 7, 8, 9, 10, 11, 12, 13, 14, 15, 16, 17, 18, 19, 20, 21, 22, 23, 24, 25, 26, 27, 28, 29, 30, 31] (by kernel_rfl) (by kernel_rfl) (by kernel_rfl) rfl (Fr.drew _ _) ?_
    have FC : Fr [] W0 W0.drew := Fr.drew _ _
    generalize W0.drew = WC at FC ⊢
    iterate 5 (refine mix_take1 (v := ?_) rfl rfl rfl rfl (fun w hS => ?_) ?_; rotate_left; (focus (have sb0 := hS.cel b0 (by simp); have sb1 := hS.cel b1 (by simp); have sb2 := hS.cel b2 (by simp); have sq0 := hS.cel q0 (by simp); have sq1 := hS.cel q1 (by simp); have sq2 := hS.cel q2 (by simp); have sq3 := hS.cel q3 (by simp); have sd0 := hS.cel d0 (by simp); have sd2 := hS.cel d2 (by simp); have sd3 := hS.cel d3 (by simp); clear hS; go_simp; rfl)); simp only [List.setIfInBounds_toArray, List.set_cons_succ, List.set_cons_zero])
    (refine mix_take1 (v := ?_) rfl rfl rfl rfl (fun w hS => ?_) ?_; rotate_left; (focus (clear hS; go_simp; rw [IntWalk.i64_in ((c.fas.length : Int) - 1) (by omega)])); simp only [List.setIfInBounds_toArray, List.set_cons_succ, List.set_cons_zero])
    refine mix_do rfl rfl rfl (fun K hK => ?_)
    go_simp
    refine (CI.out _).mono ?_
    rintro e w00 ⟨rfl, rfl⟩
    refine hK _ _ FC ?_
    clear hK K
    try simp only [Act.put, List.setIfInBounds_toArray, List.set_cons_succ, List.set_cons_zero]
    (refine mix_take1 (v := ?_) rfl rfl rfl rfl (fun w hS => ?_) ?_; rotate_left; (focus (clear hS; go_simp; rfl)); simp only [List.setIfInBounds_toArray, List.set_cons_succ, List.set_cons_zero])
    iterate 8 (refine mix_takeg (v := ?_) rfl rfl rfl rfl rfl rfl (fun w hS => ?_) ?_; rotate_left; (focus (have sb0 := hS.cel b0 (by simp); have sb1 := hS.cel b1 (by simp); have sb2 := hS.cel b2 (by simp); have sq0 := hS.cel q0 (by simp); have sq1 := hS.cel q1 (by simp); have sq2 := hS.cel q2 (by simp); have sq3 := hS.cel q3 (by simp); have sd0 := hS.cel d0 (by simp); have sd2 := hS.cel d2 (by simp); have sd3 := hS.cel d3 (by simp); have sx0 := hS.cel x0 (by simp); have sx1 := hS.cel x1 (by simp); have sx2 := hS.cel x2 (by simp); have sx3 := hS.cel x3 (by simp); have sx4 := hS.cel x4 (by simp); have sx5 := hS.cel x5 (by simp); clear hS; go_simp; rfl)); simp only [List.setIfInBounds_toArray, List.set_cons_succ, List.set_cons_zero])
    refine mix_dog rfl rfl rfl rfl rfl (fun K hK => ?_)
    go_simp
    refine (CF.out _).mono ?_
    rintro e wq ⟨rfl, fq⟩
    have FC := FC.trans fq
    clear fq
    refine hK _ _ FC ?_
    clear hK K
    try simp only [Act.put, List.setIfInBounds_toArray, List.set_cons_succ, List.set_cons_zero]
    cases M
    · iterate 2 (refine mix_take1 (v := ?_) rfl rfl rfl rfl (fun w hS => ?_) ?_; rotate_left; (focus (clear hS; go_simp; rfl)); simp only [List.setIfInBounds_toArray, List.set_cons_succ, List.set_cons_zero])
      iterate 11 (refine mix_skipT rfl rfl rfl rfl rfl FC ?_; simp only [List.setIfInBounds_toArray, List.set_cons_succ, List.set_cons_zero])
      iterate 2 (refine mix_take1 (v := ?_) rfl rfl rfl rfl (fun w hS => ?_) ?_; rotate_left; (focus (clear hS; go_simp; rfl)); simp only [List.setIfInBounds_toArray, List.set_cons_succ, List.set_cons_zero])
      refine mix_end ?_
      clear b0 b1 b2 q0 q1 q2 q3 d0 d1 d2 d3
      clear x0 x1 x2 x3 x4 x5
      go_wp2_with fail
      go_ret
      exact ⟨by rw [HX.out, HP.out]; rfl, HF2.out.trans FC⟩
    · iterate 2 (refine mix_take1 (v := ?_) rfl rfl rfl rfl (fun w hS => ?_) ?_; rotate_left; (focus (clear hS; go_simp; rfl)); simp only [List.setIfInBounds_toArray, List.set_cons_succ, List.set_cons_zero])
      iterate 11 (refine mix_takeg (v := ?_) rfl rfl rfl rfl rfl rfl (fun w hS => ?_) ?_; rotate_left; (focus (have sb0 := hS.cel b0 (by simp); have sb1 := hS.cel b1 (by simp); have sb2 := hS.cel b2 (by simp); have sq0 := hS.cel q0 (by simp); have sq1 := hS.cel q1 (by simp); have sq2 := hS.cel q2 (by simp); have sq3 := hS.cel q3 (by simp); have sd0 := hS.cel d0 (by simp); have sd2 := hS.cel d2 (by simp); have sd3 := hS.cel d3 (by simp); have sx0 := hS.cel x0 (by simp); have sx1 := hS.cel x1 (by simp); have sx2 := hS.cel x2 (by simp); have sx3 := hS.cel x3 (by simp); have sx4 := hS.cel x4 (by simp); have sx5 := hS.cel x5 (by simp); clear hS; go_simp; rfl)); simp only [List.setIfInBounds_toArray, List.set_cons_succ, List.set_cons_zero])
      iterate 2 (refine mix_take1 (v := ?_) rfl rfl rfl rfl (fun w hS => ?_) ?_; rotate_left; (focus (clear hS; go_simp; rfl)); simp only [List.setIfInBounds_toArray, List.set_cons_succ, List.set_cons_zero])
      refine mix_end ?_
      clear b0 b1 b2 q0 q1 q2 q3 d0 d1 d2 d3
      clear x0 x1 x2 x3 x4 x5
      go_wp2_with fail
      go_ret
      exact ⟨by rw [HX.out, HP.out, HS2.out]; rfl, HF2.out.trans FC⟩


set_option maxRecDepth 1000000 in
set_option maxHeartbeats 4000000 in
theorem rightB_c (vc vr vf vl : Value) (ys : List ClV) (c : Rb) (q : Qn) (xs xfa xcl : Int) (hne : xcl ≠ -1) (l : List Fd) (w : World) (h : RbAt w vc vr vf ys c) (hl : Sl w vl l.length (l.flatMap fdC)) :
    Calls Tryz.prog 55 #[rbV vc vr vf, qnV q, .agg #[.int .i64 xs, .bool true, .int .i64 xfa, .int .i64 xcl], vl] w fun e w' => e = .returned (.bool (rightB c (factsOf c q) (clausesOf c q) ⟨xs, true, xfa, xcl⟩ l)) ∧ Fr [] w w' := by
  obtain ⟨ac, pc, rfl⟩ := h.cls.sl.val
  obtain ⟨ar, pr, rfl⟩ := h.rps.val
  obtain ⟨af, pf, rfl⟩ := h.fas.val
  have hyl := h.cls.sl.len; have hrl := h.rps.len; have hfl := h.fas.len
  have hcl : c.cls.length = ys.length := by rw [h.eq, List.length_map]
  obtain ⟨th, sa, at_, kn⟩ := q
  have HR := Lib.hid h
  clear h
  have HL := Lib.hid hl
  clear hl
  have A2 := allocs_at [.cells #[.slice ac ys.length pc, .slice ar c.rps.length pr, .slice af c.fas.length pf] 30, .cells #[.int .i64 th, .int .i64 sa, .int .i64 at_, .int .i64 kn] 33, .cells #[.int .i64 xs, .bool true, .int .i64 xfa, .int .i64 xcl] 62] w
  have F2 := allocs_fr [.cells #[.slice ac ys.length pc, .slice ar c.rps.length pr, .slice af c.fas.length pf] 30, .cells #[.int .i64 th, .int .i64 sa, .int .i64 at_, .int .i64 kn] 33, .cells #[.int .i64 xs, .bool true, .int .i64 xfa, .int .i64 xcl] 62] w
  have HB : Hid (∀ W, Fr [] (((w.alloc (.cells #[.slice ac ys.length pc, .slice ar c.rps.length pr, .slice af c.fas.length pf] 30)).alloc (.cells #[.int .i64 th, .int .i64 sa, .int .i64 at_, .int .i64 kn] 33)).alloc (.cells #[.int .i64 xs, .bool true, .int .i64 xfa, .int .i64 xcl] 62)) W → W.heap[w.heap.size]? = some (.cells #[.slice ac ys.length pc, .slice ar c.rps.length pr, .slice af c.fas.length pf] 30) ∧ W.heap[w.heap.size + 1]? = some (.cells #[.int .i64 th, .int .i64 sa, .int .i64 at_, .int .i64 kn] 33) ∧ W.heap[w.heap.size + 1 + 1]? = some (.cells #[.int .i64 xs, .bool true, .int .i64 xfa, .int .i64 xcl] 62)) := Lib.hid fun W hf => ⟨hf.keep (A2 0 (by simp)) (by simp), hf.keep (A2 1 (by simp)) (by simp), hf.keep (A2 2 (by simp)) (by simp)⟩
  have HF2 : Hid (Fr [] w (((w.alloc (.cells #[.slice ac ys.length pc, .slice ar c.rps.length pr, .slice af c.fas.length pf] 30)).alloc (.cells #[.int .i64 th, .int .i64 sa, .int .i64 at_, .int .i64 kn] 33)).alloc (.cells #[.int .i64 xs, .bool true, .int .i64 xfa, .int .i64 xcl] 62))) := Lib.hid F2
  clear A2 F2
  go_enter Tryz.func55, Tryz.ntmps55
  go_upto_region 1 with fail
  generalize (((w.alloc (.cells #[.slice ac ys.length pc, .slice ar c.rps.length pr, .slice af c.fas.length pf] 30)).alloc (.cells #[.int .i64 th, .int .i64 sa, .int .i64 at_, .int .i64 kn] 33)).alloc (.cells #[.int .i64 xs, .bool true, .int .i64 xfa, .int .i64 xcl] 62)) = W0 at *
  have hb1 : (xcl == -1) = false := by simpa using hne
  have HX : Hid (rightB c (factsOf c ⟨th, sa, at_, kn⟩) (clausesOf c ⟨th, sa, at_, kn⟩) ⟨xs, true, xfa, xcl⟩ l = (decide (xfa = -1) && (clausesOf c ⟨th, sa, at_, kn⟩).contains xcl && decide ((c.cl xcl).gives = xs) && (c.cl xcl).needs.all (fun n => findsB l n true) && (c.cl xcl).bars.all (fun n => findsB l n false))) := Lib.hid (by unfold rightB; simp [hne])
  clear hne
  have bk := HB.out _ (Fr.refl _ _)
  have b0 := cell_of_blk bk.1 0; have b1 := cell_of_blk bk.1 1; have b2 := cell_of_blk bk.1 2
  have q0 := cell_of_blk bk.2.1 0; have q1 := cell_of_blk bk.2.1 1; have q2 := cell_of_blk bk.2.1 2; have q3 := cell_of_blk bk.2.1 3
  have d0 := cell_of_blk bk.2.2 0; have d1 := cell_of_blk bk.2.2 1; have d2 := cell_of_blk bk.2.2 2; have d3 := cell_of_blk bk.2.2 3
  clear bk
  by_cases hfa : xfa = -1
  · subst hfa
    go_wp2_with fail
    refine (rin_c xcl 0 ((ys.length : Int) - 1) _).mono ?_
    rintro e w0 ⟨rfl, rfl⟩
    cases hin : isInB xcl 0 ((ys.length : Int) - 1) with
    | false =>
      have HO : Hid ((clausesOf c ⟨th, sa, at_, kn⟩).contains xcl = false) := Lib.hid (pickN_out (rulesB c ⟨th, sa, at_, kn⟩) c.cls.length xcl (by rw [hcl]; exact hin))
      clear hin
      go_wp2_with fail
      go_ret
      exact ⟨by rw [HX.out, HO.out]; simp, HF2.out⟩
    | true =>
      obtain ⟨n, rfl⟩ := Int.eq_ofNat_of_zero_le (isInB_iff.1 hin).1
      have hn : n < ys.length := by have := (isInB_iff.1 hin).2; omega
      clear hin
      obtain ⟨xb, xo, xcap, hv, hcl_⟩ := clRow_cells (HR.out.same HF2.out).cls.sl n hn
      cases hv
      have x0 := hcl_ 0 _ rfl; have x1 := hcl_ 1 _ rfl; have x2 := hcl_ 2 _ rfl; have x3 := hcl_ 3 _ rfl; have x4 := hcl_ 4 _ rfl; have x5 := hcl_ 5 _ rfl
      simp only [Nat.add_zero] at x0 x1 x2 x3 x4 x5
      obtain ⟨y, hy⟩ : ∃ y, ys[n] = y := ⟨_, rfl⟩
      have HYM : Hid (y ∈ ys) := Lib.hid (by rw [← hy]; exact List.getElem_mem _)
      have HYX : Hid (c.cls.getD n default = y.x) := Lib.hid (by rw [← hy]; simp [HR.out.eq, hn])
      rw [hy] at x0 x1 x2 x3 x4 x5
      clear hy hcl_
      have HN := Lib.hid ((HR.out.same HF2.out).cls.needs y HYM.out); have HBA := Lib.hid ((HR.out.same HF2.out).cls.bars y HYM.out)
      obtain ⟨⟨xp, xf, xt, xn, xb_, xg⟩, vn, vb⟩ := y
      obtain ⟨an, pn, hvn⟩ := HN.out.val
      obtain ⟨ab, pb, hvb⟩ := HBA.out.val
      simp only at hvn hvb x0 x1 x2 x3 x4 x5 HYX
      subst hvn hvb
      simp only at HN HBA
      have hnl := HN.out.len; have hbl := HBA.out.len
      obtain ⟨M, hM⟩ : ∃ M, rulesB c ⟨th, sa, at_, kn⟩ n = M := ⟨_, rfl⟩
      have CL := Lib.hid fun (W : World) (hf : Fr [] (W0.alloc (.cells #[.int .i64 xp, .int .i64 xf, .int .i64 xt, .slice an xn.length pn, .slice ab xb_.length pb, .int .i64 xg] 67)) W) => rclause_c _ _ _ ys c ⟨th, sa, at_, kn⟩ n W (HR.out.same (HF2.out.trans ((Fr.alloc _ _ _).trans hf))) hn
      rw [hM] at CL
      unfold rbV qnV at CL
      simp only at CL
      have HP : Hid ((clausesOf c ⟨th, sa, at_, kn⟩).contains (n : Int) = M) := Lib.hid (by unfold clausesOf; rw [pickN_has, hcl, hM]; simp [hn])
      have HCX : Hid (c.cl (n : Int) = ⟨xp, xf, xt, xn, xb_, xg⟩) := Lib.hid (by unfold Rb.cl; rw [Int.toNat_natCast]; exact HYX.out)
      rw [HP.out, HCX.out] at HX
      simp only [decide_true, Bool.true_and] at HX
      clear hM HP HCX HYX HYM
      have HG : Hid (∀ W, Fr [] (W0.alloc (.cells #[.int .i64 xp, .int .i64 xf, .int .i64 xt, .slice an xn.length pn, .slice ab xb_.length pb, .int .i64 xg] 67)) W → W.heap[W0.heap.size]? = some (.cells #[.int .i64 xp, .int .i64 xf, .int .i64 xt, .slice an xn.length pn, .slice ab xb_.length pb, .int .i64 xg] 67)) := Lib.hid fun W hf => hf.keep (heap_alloc_new _ _) (by simp)
      have bk := HB.out _ (Fr.alloc [] W0 (.cells #[.int .i64 xp, .int .i64 xf, .int .i64 xt, .slice an xn.length pn, .slice ab xb_.length pb, .int .i64 xg] 67))
      have be0 := cell_of_blk bk.1 0; have be1 := cell_of_blk bk.1 1; have be2 := cell_of_blk bk.1 2
      have qe0 := cell_of_blk bk.2.1 0; have qe1 := cell_of_blk bk.2.1 1; have qe2 := cell_of_blk bk.2.1 2; have qe3 := cell_of_blk bk.2.1 3
      have de0 := cell_of_blk bk.2.2 0; have de1 := cell_of_blk bk.2.2 1; have de2 := cell_of_blk bk.2.2 2; have de3 := cell_of_blk bk.2.2 3
      clear bk
      go_wp2_with fail
      clear b0 b1 b2 q0 q1 q2 q3 d0 d1 d2 d3 x0 x1 x2 x3 x4 x5
      clear be0 be1 be2 qe0 qe1 qe2 qe3 de0 de1 de2 de3
      refine (CL.out _ (Fr.refl _ _)).mono ?_
      rintro e w1 ⟨rfl, f1⟩
      have HW1 := Lib.hid ((Fr.alloc [] W0 (.cells #[.int .i64 xp, .int .i64 xf, .int .i64 xt, .slice an xn.length pn, .slice ab xb_.length pb, .int .i64 xg] 67)).trans f1)
      have HG0 := HG
      have HG : Hid (∀ W, Fr [] w1 W → W.heap[W0.heap.size]? = some (.cells #[.int .i64 xp, .int .i64 xf, .int .i64 xt, .slice an xn.length pn, .slice ab xb_.length pb, .int .i64 xg] 67)) := Lib.hid fun W hf => HG0.out W (f1.trans hf)
      have bk := HB.out _ HW1.out
      have d0 := cell_of_blk bk.2.2 0
      have gk := HG.out _ (Fr.refl _ _)
      have g4 := cell_of_blk gk 5
      have g2 := cell_of_blk gk 3
      clear bk gk HG0 f1 CL
      cases M with
      | false =>
        go_wp2_with fail
        go_ret
        exact ⟨by rw [HX.out]; simp, HF2.out.trans HW1.out⟩
      | true =>
        by_cases hg : xg = xs
        · subst hg
          have hgg : (xg != xg) = false := by simp
          go_wp2_with fail
          clear d0 g4 hgg g2
          have HS1 := Lib.hid (Fr.refl [] w1)
          go_loopw [10] (fun i wr => ∃ k : Nat, k ≤ xn.length ∧ i = .int .i64 k ∧ Hid ((xn.take k).all (fun n => findsB l n true) = true) ∧ Hid (Fr [] w1 wr)) (fun i _ => xn.length - (intOf i).toNat)
          case atStart => exact ⟨0, Nat.zero_le _, rfl, Lib.hid rfl, HS1⟩
          case round =>
            clear HS1
            obtain ⟨k, hk, rfl, HA, HF⟩ := hrel
            have gk := HG.out _ HF.out
            have g3 := cell_of_blk gk 3
            clear gk
            by_cases hlt : k < xn.length
            · obtain ⟨eb, eo, rfl, hc⟩ := (HN.out.same (HW1.out.trans HF.out)).at_ (by omega)
              have e0 : wr.cell? ⟨eb, eo + k, none⟩ = some (.int .i64 xn[k]) := hc k _ (by simp [hlt])
              have HT : Hid ((xn.take (k + 1)).all (fun n => findsB l n true) = ((xn.take k).all (fun n => findsB l n true) && findsB l xn[k] true)) := Lib.hid (by rw [List.take_succ_eq_append_getElem hlt, List.all_append]; simp)
              have HT2 : Hid (findsB l xn[k] true = false → xn.all (fun n => findsB l n true) = false) := Lib.hid fun hq => by
                cases hh : xn.all (fun n => findsB l n true) with
                | false => rfl
                | true => rw [List.all_eq_true.1 hh _ (List.getElem_mem hlt)] at hq; cases hq
              have CD := Lib.hid fun (W : World) (hf : Fr [] wr W) => rfinds_c vl l xn[k] true W (HL.out.same ((HF2.out.trans HW1.out).trans (HF.out.trans hf)))
              generalize xn[k] = z at *
              obtain ⟨F, hF⟩ : ∃ F, findsB l z true = F := ⟨_, rfl⟩
              rw [hF] at HT HT2 CD
              clear hF hc
              go_wp2_with fail
              refine (CD.out _ (Fr.refl _ _)).mono ?_
              rintro e w2 ⟨rfl, rfl⟩
              clear CD e0
              cases F with
              | false =>
                have HQ := Lib.hid (HT2.out rfl)
                go_wp2_with fail
                go_ret
                exact ⟨by rw [HX.out, HQ.out]; simp, (HF2.out.trans HW1.out).trans HF.out⟩
              | true =>
                have HQ : Hid ((xn.take (k + 1)).all (fun n => findsB l n true) = true) := Lib.hid (by rw [HT.out, HA.out]; rfl)
                go_wp2_with fail
                clear g3
                go_roundw
                case rel => exact ⟨k + 1, by omega, by go_num, HQ, HF⟩
                case measure => simp [intOf]; omega
            · obtain rfl : k = xn.length := by omega
              have HALL3 := Lib.hid (show xn.all (fun n => findsB l n true) = true by have := HA.out; rwa [List.take_length] at this)
              clear HA
              go_wp2_with fail
              clear g3
              have HS1 := HF
              clear HF
              go_loopw [11] (fun i wr => ∃ k : Nat, k ≤ xb_.length ∧ i = .int .i64 k ∧ Hid ((xb_.take k).all (fun n => findsB l n false) = true) ∧ Hid (Fr [] w1 wr)) (fun i _ => xb_.length - (intOf i).toNat)
              case atStart => exact ⟨0, Nat.zero_le _, rfl, Lib.hid rfl, HS1⟩
              case round =>
                clear HS1
                obtain ⟨k, hk, rfl, HA, HF⟩ := hrel
                have gk := HG.out _ HF.out
                have g4 := cell_of_blk gk 4
                clear gk
                by_cases hlt : k < xb_.length
                · obtain ⟨eb, eo, rfl, hc⟩ := (HBA.out.same (HW1.out.trans HF.out)).at_ (by omega)
                  have e0 : wr.cell? ⟨eb, eo + k, none⟩ = some (.int .i64 xb_[k]) := hc k _ (by simp [hlt])
                  have HT : Hid ((xb_.take (k + 1)).all (fun n => findsB l n false) = ((xb_.take k).all (fun n => findsB l n false) && findsB l xb_[k] false)) := Lib.hid (by rw [List.take_succ_eq_append_getElem hlt, List.all_append]; simp)
                  have HT2 : Hid (findsB l xb_[k] false = false → xb_.all (fun n => findsB l n false) = false) := Lib.hid fun hq => by
                    cases hh : xb_.all (fun n => findsB l n false) with
                    | false => rfl
                    | true => rw [List.all_eq_true.1 hh _ (List.getElem_mem hlt)] at hq; cases hq
                  have CD := Lib.hid fun (W : World) (hf : Fr [] wr W) => rfinds_c vl l xb_[k] false W (HL.out.same ((HF2.out.trans HW1.out).trans (HF.out.trans hf)))
                  generalize xb_[k] = z at *
                  obtain ⟨F, hF⟩ : ∃ F, findsB l z false = F := ⟨_, rfl⟩
                  rw [hF] at HT HT2 CD
                  clear hF hc
                  go_wp2_with fail
                  refine (CD.out _ (Fr.refl _ _)).mono ?_
                  rintro e w2 ⟨rfl, rfl⟩
                  clear CD e0
                  cases F with
                  | false =>
                    have HQ := Lib.hid (HT2.out rfl)
                    go_wp2_with fail
                    go_ret
                    exact ⟨by rw [HX.out, HQ.out]; simp, (HF2.out.trans HW1.out).trans HF.out⟩
                  | true =>
                    have HQ : Hid ((xb_.take (k + 1)).all (fun n => findsB l n false) = true) := Lib.hid (by rw [HT.out, HA.out]; rfl)
                    go_wp2_with fail
                    clear g4
                    go_roundw
                    case rel => exact ⟨k + 1, by omega, by go_num, HQ, HF⟩
                    case measure => simp [intOf]; omega
                · obtain rfl : k = xb_.length := by omega
                  have HALL4 := Lib.hid (show xb_.all (fun n => findsB l n false) = true by have := HA.out; rwa [List.take_length] at this)
                  clear HA
                  go_wp2_with fail
                  clear g4
                  go_ret
                  exact ⟨by rw [HX.out, HALL3.out, HALL4.out]; simp, (HF2.out.trans HW1.out).trans HF.out⟩
        · have hgg : (xg != xs) = true := by simpa using hg
          have HQ : Hid (decide (xg = xs) = false) := Lib.hid (by simpa using hg)
          clear hg
          go_wp2_with fail
          go_ret
          exact ⟨by rw [HX.out, HQ.out]; simp, HF2.out.trans HW1.out⟩
  · have hfb : (xfa != -1) = true := by simpa using hfa
    have HQ : Hid (decide (xfa = -1) = false) := Lib.hid (by simpa using hfa)
    clear hfa
    go_wp2_with fail
    go_ret
    exact ⟨by rw [HX.out, HQ.out]; simp, HF2.out⟩


set_option maxRecDepth 1000000 in
set_option maxHeartbeats 4000000 in
theorem rightC_c (vc vr vf vl : Value) (ys : List ClV) (c : Rb) (q : Qn) (xs xfa xcl : Int) (l : List Fd) (w : World) (h : RbAt w vc vr vf ys c) (hl : Sl w vl l.length (l.flatMap fdC)) :
    Calls Tryz.prog 55 #[rbV vc vr vf, qnV q, .agg #[.int .i64 xs, .bool false, .int .i64 xfa, .int .i64 xcl], vl] w fun e w' => e = .returned (.bool (rightB c (factsOf c q) (clausesOf c q) ⟨xs, false, xfa, xcl⟩ l)) ∧ Fr [] w w' := by
  obtain ⟨ac, pc, rfl⟩ := h.cls.sl.val
  obtain ⟨ar, pr, rfl⟩ := h.rps.val
  obtain ⟨af, pf, rfl⟩ := h.fas.val
  have hyl := h.cls.sl.len; have hrl := h.rps.len; have hfl := h.fas.len
  have hcl : c.cls.length = ys.length := by rw [h.eq, List.length_map]
  obtain ⟨th, sa, at_, kn⟩ := q
  have HR := Lib.hid h
  clear h
  have HL := Lib.hid hl
  clear hl
  have A2 := allocs_at [.cells #[.slice ac ys.length pc, .slice ar c.rps.length pr, .slice af c.fas.length pf] 30, .cells #[.int .i64 th, .int .i64 sa, .int .i64 at_, .int .i64 kn] 33, .cells #[.int .i64 xs, .bool false, .int .i64 xfa, .int .i64 xcl] 62] w
  have F2 := allocs_fr [.cells #[.slice ac ys.length pc, .slice ar c.rps.length pr, .slice af c.fas.length pf] 30, .cells #[.int .i64 th, .int .i64 sa, .int .i64 at_, .int .i64 kn] 33, .cells #[.int .i64 xs, .bool false, .int .i64 xfa, .int .i64 xcl] 62] w
  have HB : Hid (∀ W, Fr [] (((w.alloc (.cells #[.slice ac ys.length pc, .slice ar c.rps.length pr, .slice af c.fas.length pf] 30)).alloc (.cells #[.int .i64 th, .int .i64 sa, .int .i64 at_, .int .i64 kn] 33)).alloc (.cells #[.int .i64 xs, .bool false, .int .i64 xfa, .int .i64 xcl] 62)) W → W.heap[w.heap.size]? = some (.cells #[.slice ac ys.length pc, .slice ar c.rps.length pr, .slice af c.fas.length pf] 30) ∧ W.heap[w.heap.size + 1]? = some (.cells #[.int .i64 th, .int .i64 sa, .int .i64 at_, .int .i64 kn] 33) ∧ W.heap[w.heap.size + 1 + 1]? = some (.cells #[.int .i64 xs, .bool false, .int .i64 xfa, .int .i64 xcl] 62)) := Lib.hid fun W hf => ⟨hf.keep (A2 0 (by simp)) (by simp), hf.keep (A2 1 (by simp)) (by simp), hf.keep (A2 2 (by simp)) (by simp)⟩
  have HF2 : Hid (Fr [] w (((w.alloc (.cells #[.slice ac ys.length pc, .slice ar c.rps.length pr, .slice af c.fas.length pf] 30)).alloc (.cells #[.int .i64 th, .int .i64 sa, .int .i64 at_, .int .i64 kn] 33)).alloc (.cells #[.int .i64 xs, .bool false, .int .i64 xfa, .int .i64 xcl] 62))) := Lib.hid F2
  clear A2 F2
  go_enter Tryz.func55, Tryz.ntmps55
  go_upto_region 1 with fail
  generalize (((w.alloc (.cells #[.slice ac ys.length pc, .slice ar c.rps.length pr, .slice af c.fas.length pf] 30)).alloc (.cells #[.int .i64 th, .int .i64 sa, .int .i64 at_, .int .i64 kn] 33)).alloc (.cells #[.int .i64 xs, .bool false, .int .i64 xfa, .int .i64 xcl] 62)) = W0 at *
  have HX : Hid (rightB c (factsOf c ⟨th, sa, at_, kn⟩) (clausesOf c ⟨th, sa, at_, kn⟩) ⟨xs, false, xfa, xcl⟩ l = (decide (xfa = -1) && decide (xcl = -1) && !(c.fas.any (factI ⟨th, sa, at_, kn⟩ xs)) && !((List.range c.cls.length).any (clauseI c ⟨th, sa, at_, kn⟩ xs l)))) := Lib.hid (by
    unfold rightB
    simp only [Bool.false_and, Bool.false_eq_true, if_false]
    rw [facts_any]
    unfold clausesOf
    rw [pickN_any]
    rfl)
  by_cases hfa : xfa = -1
  · subst hfa
    by_cases hca : xcl = -1
    · subst hca
      have HS0 := Lib.hid (Fr.refl [] W0)
      have bk := HB.out _ (Fr.refl _ _)
      have b0 := cell_of_blk bk.1 0; have b1 := cell_of_blk bk.1 1; have b2 := cell_of_blk bk.1 2
      have q0 := cell_of_blk bk.2.1 0; have q1 := cell_of_blk bk.2.1 1; have q2 := cell_of_blk bk.2.1 2; have q3 := cell_of_blk bk.2.1 3
      have d0 := cell_of_blk bk.2.2 0; have d1 := cell_of_blk bk.2.2 1; have d2 := cell_of_blk bk.2.2 2; have d3 := cell_of_blk bk.2.2 3
      clear bk
      go_wp2_with fail
      clear b0 b1 b2 q0 q1 q2 q3 d0 d1 d2 d3
      go_loopw [12] (fun i wr => ∃ k : Nat, k ≤ c.fas.length ∧ i = .int .i64 k ∧ Hid ((c.fas.take k).any (factI ⟨th, sa, at_, kn⟩ xs) = false) ∧ Hid (Fr [] W0 wr)) (fun i _ => c.fas.length - (intOf i).toNat)
      case atStart => exact ⟨0, Nat.zero_le _, rfl, Lib.hid rfl, HS0⟩
      case round =>
        clear HS0
        obtain ⟨k, hk, rfl, HA, HF⟩ := hrel
        have bk := HB.out _ HF.out
        have b0 := cell_of_blk bk.1 0; have b1 := cell_of_blk bk.1 1; have b2 := cell_of_blk bk.1 2
        have q0 := cell_of_blk bk.2.1 0; have q1 := cell_of_blk bk.2.1 1; have q2 := cell_of_blk bk.2.1 2; have q3 := cell_of_blk bk.2.1 3
        have d0 := cell_of_blk bk.2.2 0; have d1 := cell_of_blk bk.2.2 1; have d2 := cell_of_blk bk.2.2 2; have d3 := cell_of_blk bk.2.2 3
        clear bk
        by_cases hlt : k < c.fas.length
        · obtain ⟨xb, xo, xcap, hv, hcl_⟩ := faRow_cells' (HR.out.same (HF2.out.trans HF.out)).fas k hlt
          cases hv
          have x0 := hcl_ 0 _ rfl; have x1 := hcl_ 1 _ rfl; have x2 := hcl_ 2 _ rfl; have x3 := hcl_ 3 _ rfl; have x4 := hcl_ 4 _ rfl; have x5 := hcl_ 5 _ rfl
          simp only [Nat.add_zero] at x0 x1 x2 x3 x4 x5
          obtain ⟨x, hx⟩ : ∃ x, c.fas[k] = x := ⟨_, rfl⟩
          have HXE := Lib.hid hx
          rw [hx] at x0 x1 x2 x3 x4 x5
          obtain ⟨M, hM⟩ : ∃ M, statesB x ⟨th, sa, at_, kn⟩ = M := ⟨_, rfl⟩
          have CF := Lib.hid fun (W : World) => rfact_c x ⟨th, sa, at_, kn⟩ W
          rw [hM] at CF
          have HM := Lib.hid hM
          clear hM hcl_ hx
          obtain ⟨xt, xsa, xf, xe, xkf, xkt⟩ := x
          unfold faV qnV at CF
          simp only at x0 x1 x2 x3 x4 x5 CF
          obtain ⟨S, hS2⟩ : ∃ S, (xsa == xs) = S := ⟨_, rfl⟩
          go_wp2_with fail
          refine reg_mix (Fr [] wr) [0, 1, 2, 3, 4, 5, 6, 7, 8, 9, 10, 11, 12, 13, 14, 15, 16, 17] (by kernel_rfl) (by kernel_rfl) (by kernel_rfl) rfl (Fr.drew _ _) ?_
          have FC : Fr [] wr wr.drew := Fr.drew _ _
          generalize wr.drew = WC at FC ⊢
          iterate 6 (refine mix_take1 (v := ?_) rfl rfl rfl rfl (fun w hS => ?_) ?_; rotate_left; (focus (have sb0 := hS.cel b0 (by simp); have sb1 := hS.cel b1 (by simp); have sb2 := hS.cel b2 (by simp); have sq0 := hS.cel q0 (by simp); have sq1 := hS.cel q1 (by simp); have sq2 := hS.cel q2 (by simp); have sq3 := hS.cel q3 (by simp); have sd0 := hS.cel d0 (by simp); have sd2 := hS.cel d2 (by simp); have sd3 := hS.cel d3 (by simp); have sx0 := hS.cel x0 (by simp); have sx1 := hS.cel x1 (by simp); have sx2 := hS.cel x2 (by simp); have sx3 := hS.cel x3 (by simp); have sx4 := hS.cel x4 (by simp); have sx5 := hS.cel x5 (by simp); clear hS; go_simp; rfl)); simp only [List.setIfInBounds_toArray, List.set_cons_succ, List.set_cons_zero])
          refine mix_do rfl rfl rfl (fun K hK => ?_)
          go_simp
          refine (CF.out _).mono ?_
          rintro e wq ⟨rfl, fq⟩
          have FC := FC.trans fq
          clear fq
          refine hK _ _ FC ?_
          clear hK K
          try simp only [Act.put, List.setIfInBounds_toArray, List.set_cons_succ, List.set_cons_zero]
          (refine mix_take1 (v := ?_) rfl rfl rfl rfl (fun w hS => ?_) ?_; rotate_left; (focus (clear hS; go_simp; rfl)); simp only [List.setIfInBounds_toArray, List.set_cons_succ, List.set_cons_zero])
          cases M
          · iterate 9 (refine mix_skipT rfl rfl rfl rfl rfl FC ?_; simp only [List.setIfInBounds_toArray, List.set_cons_succ, List.set_cons_zero])
            (refine mix_take1 (v := ?_) rfl rfl rfl rfl (fun w hS => ?_) ?_; rotate_left; (focus (clear hS; go_simp; rfl)); simp only [List.setIfInBounds_toArray, List.set_cons_succ, List.set_cons_zero])
            refine mix_end ?_
            clear b0 b1 b2 q0 q1 q2 q3 d0 d1 d2 d3
            clear x0 x1 x2 x3 x4 x5 CF
            have HFC := Lib.hid (HF.out.trans FC)
            clear FC HF
            have HXX : Hid (factI ⟨th, sa, at_, kn⟩ xs ⟨xt, xsa, xf, xe, xkf, xkt⟩ = false) := Lib.hid (by unfold factI; rw [HM.out]; rfl)
            have HQ : Hid ((c.fas.take (k + 1)).any (factI ⟨th, sa, at_, kn⟩ xs) = false) := Lib.hid (by rw [any_take _ _ k hlt, HXE.out, HXX.out, HA.out]; rfl)
            clear HA HM hS2
            go_wp2_with fail
            go_roundw
            case rel => exact ⟨k + 1, by omega, by go_num, HQ, HFC⟩
            case measure => simp [intOf]; omega
          · cases S
            · iterate 9 (refine mix_takeg (v := ?_) rfl rfl rfl rfl rfl rfl (fun w hS => ?_) ?_; rotate_left; (focus (have sb0 := hS.cel b0 (by simp); have sb1 := hS.cel b1 (by simp); have sb2 := hS.cel b2 (by simp); have sq0 := hS.cel q0 (by simp); have sq1 := hS.cel q1 (by simp); have sq2 := hS.cel q2 (by simp); have sq3 := hS.cel q3 (by simp); have sd0 := hS.cel d0 (by simp); have sd2 := hS.cel d2 (by simp); have sd3 := hS.cel d3 (by simp); have sx0 := hS.cel x0 (by simp); have sx1 := hS.cel x1 (by simp); have sx2 := hS.cel x2 (by simp); have sx3 := hS.cel x3 (by simp); have sx4 := hS.cel x4 (by simp); have sx5 := hS.cel x5 (by simp); clear hS; go_simp; rfl)); simp only [List.setIfInBounds_toArray, List.set_cons_succ, List.set_cons_zero])
              (refine mix_take1 (v := ?_) rfl rfl rfl rfl (fun w hS => ?_) ?_; rotate_left; (focus (clear hS; go_simp; rfl)); simp only [List.setIfInBounds_toArray, List.set_cons_succ, List.set_cons_zero])
              refine mix_end ?_
              clear b0 b1 b2 q0 q1 q2 q3 d0 d1 d2 d3
              clear x0 x1 x2 x3 x4 x5 CF
              have HFC := Lib.hid (HF.out.trans FC)
              clear FC HF
              have HXX : Hid (factI ⟨th, sa, at_, kn⟩ xs ⟨xt, xsa, xf, xe, xkf, xkt⟩ = false) := Lib.hid (by unfold factI; rw [HM.out]; simpa using hS2)
              have HQ : Hid ((c.fas.take (k + 1)).any (factI ⟨th, sa, at_, kn⟩ xs) = false) := Lib.hid (by rw [any_take _ _ k hlt, HXE.out, HXX.out, HA.out]; rfl)
              clear HA HM hS2
              go_wp2_with fail
              go_roundw
              case rel => exact ⟨k + 1, by omega, by go_num, HQ, HFC⟩
              case measure => simp [intOf]; omega
            · iterate 9 (refine mix_takeg (v := ?_) rfl rfl rfl rfl rfl rfl (fun w hS => ?_) ?_; rotate_left; (focus (have sb0 := hS.cel b0 (by simp); have sb1 := hS.cel b1 (by simp); have sb2 := hS.cel b2 (by simp); have sq0 := hS.cel q0 (by simp); have sq1 := hS.cel q1 (by simp); have sq2 := hS.cel q2 (by simp); have sq3 := hS.cel q3 (by simp); have sd0 := hS.cel d0 (by simp); have sd2 := hS.cel d2 (by simp); have sd3 := hS.cel d3 (by simp); have sx0 := hS.cel x0 (by simp); have sx1 := hS.cel x1 (by simp); have sx2 := hS.cel x2 (by simp); have sx3 := hS.cel x3 (by simp); have sx4 := hS.cel x4 (by simp); have sx5 := hS.cel x5 (by simp); clear hS; go_simp; rfl)); simp only [List.setIfInBounds_toArray, List.set_cons_succ, List.set_cons_zero])
              (refine mix_take1 (v := ?_) rfl rfl rfl rfl (fun w hS => ?_) ?_; rotate_left; (focus (clear hS; go_simp; rfl)); simp only [List.setIfInBounds_toArray, List.set_cons_succ, List.set_cons_zero])
              refine mix_end ?_
              clear b0 b1 b2 q0 q1 q2 q3 d0 d1 d2 d3
              clear x0 x1 x2 x3 x4 x5 CF
              have HFC := Lib.hid (HF.out.trans FC)
              clear FC HF
              have HXX : Hid (factI ⟨th, sa, at_, kn⟩ xs ⟨xt, xsa, xf, xe, xkf, xkt⟩ = true) := Lib.hid (by unfold factI; rw [HM.out]; simpa using hS2)
              have HQ : Hid (c.fas.any (factI ⟨th, sa, at_, kn⟩ xs) = true) := Lib.hid (List.any_eq_true.2 ⟨c.fas[k], List.getElem_mem hlt, by rw [HXE.out]; exact HXX.out⟩)
              clear HA HM hS2
              go_wp2_with fail
              go_ret
              exact ⟨by rw [HX.out, HQ.out]; simp, HF2.out.trans HFC.out⟩
        · obtain rfl : k = c.fas.length := by omega
          have HFALL : Hid (c.fas.any (factI ⟨th, sa, at_, kn⟩ xs) = false) := Lib.hid (by have := HA.out; rwa [List.take_length] at this)
          have HF0 := HF
          clear HA HF
          go_wp2_with fail
          clear b0 b1 b2 q0 q1 q2 q3 d0 d1 d2 d3
          go_loopw [13] (fun i wr => ∃ k : Nat, k ≤ ys.length ∧ i = .int .i64 k ∧ Hid ((List.range k).any (clauseI c ⟨th, sa, at_, kn⟩ xs l) = false) ∧ Hid (Fr [] W0 wr)) (fun i _ => ys.length - (intOf i).toNat)
          case atStart => exact ⟨0, Nat.zero_le _, rfl, Lib.hid rfl, HF0⟩
          case round =>
            clear HF0
            obtain ⟨k, hk, rfl, HA0, HF⟩ := hrel
            have bk := HB.out _ HF.out
            have b0 := cell_of_blk bk.1 0; have b1 := cell_of_blk bk.1 1; have b2 := cell_of_blk bk.1 2
            have q0 := cell_of_blk bk.2.1 0; have q1 := cell_of_blk bk.2.1 1; have q2 := cell_of_blk bk.2.1 2; have q3 := cell_of_blk bk.2.1 3
            have d0 := cell_of_blk bk.2.2 0; have d1 := cell_of_blk bk.2.2 1; have d2 := cell_of_blk bk.2.2 2; have d3 := cell_of_blk bk.2.2 3
            clear bk
            by_cases hlt : k < ys.length
            · have hdn : decide ((k : Int) < (ys.length : Int)) = true := decide_eq_true (by omega)
              obtain ⟨xb, xo, xcap, hv, hcl_⟩ := clRow_cells (HR.out.same (HF2.out.trans HF.out)).cls.sl k hlt
              cases hv
              have x0 := hcl_ 0 _ rfl; have x1 := hcl_ 1 _ rfl; have x2 := hcl_ 2 _ rfl; have x3 := hcl_ 3 _ rfl; have x4 := hcl_ 4 _ rfl; have x5 := hcl_ 5 _ rfl
              simp only [Nat.add_zero] at x0 x1 x2 x3 x4 x5
              obtain ⟨y, hy⟩ : ∃ y, ys[k] = y := ⟨_, rfl⟩
              have HYM : Hid (y ∈ ys) := Lib.hid (by rw [← hy]; exact List.getElem_mem _)
              have HYX : Hid (c.cls.getD k default = y.x) := Lib.hid (by rw [← hy]; simp [HR.out.eq, hlt])
              rw [hy] at x0 x1 x2 x3 x4 x5
              clear hy hcl_
              have HN := Lib.hid ((HR.out.same HF2.out).cls.needs y HYM.out); have HBA := Lib.hid ((HR.out.same HF2.out).cls.bars y HYM.out)
              obtain ⟨⟨xp, xf, xt, xn, xb_, xg⟩, vn, vb⟩ := y
              obtain ⟨an, pn, hvn⟩ := HN.out.val
              obtain ⟨ab, pb, hvb⟩ := HBA.out.val
              simp only at hvn hvb x0 x1 x2 x3 x4 x5 HYX
              subst hvn hvb
              simp only at HN HBA
              have hnl := HN.out.len; have hbl := HBA.out.len
              have HCX : Hid (c.cl (k : Int) = ⟨xp, xf, xt, xn, xb_, xg⟩) := Lib.hid (by unfold Rb.cl; rw [Int.toNat_natCast]; exact HYX.out)
              have CL := Lib.hid fun (W : World) (hf : Fr [] (wr.alloc (.cells #[.int .i64 xp, .int .i64 xf, .int .i64 xt, .slice an xn.length pn, .slice ab xb_.length pb, .int .i64 xg] 67)) W) => rclause_c _ _ _ ys c ⟨th, sa, at_, kn⟩ k W (HR.out.same (HF2.out.trans (HF.out.trans ((Fr.alloc _ _ _).trans hf)))) hlt
              obtain ⟨M, hM⟩ : ∃ M, rulesB c ⟨th, sa, at_, kn⟩ k = M := ⟨_, rfl⟩
              rw [hM] at CL
              have HM := Lib.hid hM
              unfold rbV qnV at CL
              simp only at CL
              clear hM HYX HYM
              have HG : Hid (∀ W, Fr [] (wr.alloc (.cells #[.int .i64 xp, .int .i64 xf, .int .i64 xt, .slice an xn.length pn, .slice ab xb_.length pb, .int .i64 xg] 67)) W → W.heap[wr.heap.size]? = some (.cells #[.int .i64 xp, .int .i64 xf, .int .i64 xt, .slice an xn.length pn, .slice ab xb_.length pb, .int .i64 xg] 67)) := Lib.hid fun W hf => hf.keep (heap_alloc_new _ _) (by simp)
              have HFA := Lib.hid (HF.out.trans (Fr.alloc [] wr (.cells #[.int .i64 xp, .int .i64 xf, .int .i64 xt, .slice an xn.length pn, .slice ab xb_.length pb, .int .i64 xg] 67)))
              have bk := HB.out _ HFA.out
              have be0 := cell_of_blk bk.1 0; have be1 := cell_of_blk bk.1 1; have be2 := cell_of_blk bk.1 2
              have qe0 := cell_of_blk bk.2.1 0; have qe1 := cell_of_blk bk.2.1 1; have qe2 := cell_of_blk bk.2.1 2; have qe3 := cell_of_blk bk.2.1 3
              have de0 := cell_of_blk bk.2.2 0; have de1 := cell_of_blk bk.2.2 1; have de2 := cell_of_blk bk.2.2 2; have de3 := cell_of_blk bk.2.2 3
              clear bk
              by_cases hg : xg = xs
              · obtain rfl : xs = xg := hg.symm
                have hgg : (xs != xs) = false := by simp
                go_wp2_with fail
                clear b0 b1 b2 q0 q1 q2 q3 d0 d1 d2 d3 x0 x1 x2 x3 x4 x5 hgg
                clear be0 be1 be2 qe0 qe1 qe2 qe3 de0 de1 de2 de3
                refine (CL.out _ (Fr.refl _ _)).mono ?_
                rintro e w1 ⟨rfl, f1⟩
                have HW1 := Lib.hid (HFA.out.trans f1)
                have HG0 := HG
                have HG : Hid (∀ W, Fr [] w1 W → W.heap[wr.heap.size]? = some (.cells #[.int .i64 xp, .int .i64 xf, .int .i64 xt, .slice an xn.length pn, .slice ab xb_.length pb, .int .i64 xs] 67)) := Lib.hid fun W hf => HG0.out W (f1.trans hf)
                clear HG0 f1 CL HFA HF
                cases M with
                | false =>
                  go_wp2_with fail
                  go_roundw
                  case rel => exact ⟨k + 1, by omega, by go_num, Lib.hid (by rw [List.range_succ, List.any_append, HA0.out]; show (clauseI c ⟨th, sa, at_, kn⟩ xs l k || false) = false; unfold clauseI; rw [HM.out]; simp), HW1⟩
                  case measure => simp [intOf]; omega
                | true =>
                  go_wp2_with fail
                  have HS1 := Lib.hid (Fr.refl [] w1)
                  go_loopw [15, 16] (fun bv i wi => ∃ (j : Nat) (bb : Bool), j ≤ xn.length ∧ i = .int .i64 j ∧ bv = .bool bb ∧ Hid ((false || (xn.take j).any (fun n => findsB l n false)) = bb) ∧ Hid (Fr [] w1 wi)) (fun _ i _ => xn.length - (intOf i).toNat)
                  case atStart => exact ⟨0, _, Nat.zero_le _, rfl, rfl, Lib.hid (by simp), HS1⟩
                  case round =>
                    clear HS1
                    obtain ⟨j, bb, hj, rfl, rfl, HA, HFi⟩ := hrel
                    rename World => wi
                    have gk := HG.out _ HFi.out
                    have g3 := cell_of_blk gk 3
                    clear gk
                    by_cases hjl : j < xn.length
                    · have HT : Hid ((false || (xn.take (j + 1)).any (fun n => findsB l n false)) = ((false || (xn.take j).any (fun n => findsB l n false)) || findsB l xn[j] false)) := Lib.hid (by rw [any_take _ _ j hjl, Bool.or_assoc])
                      cases bb with
                      | true =>
                        have HQ : Hid ((false || (xn.take (j + 1)).any (fun n => findsB l n false)) = true) := Lib.hid (by rw [HT.out, HA.out]; rfl)
                        clear HT HA
                        go_wp2_with fail
                        clear g3
                        go_roundw
                        case rel => exact ⟨j + 1, true, by omega, by go_num, rfl, HQ, HFi⟩
                        case measure => simp [intOf]; omega
                      | false =>
                        obtain ⟨eb, eo, rfl, hc⟩ := (HN.out.same (HW1.out.trans HFi.out)).at_ (by omega)
                        have e0 : wi.cell? ⟨eb, eo + j, none⟩ = some (.int .i64 xn[j]) := hc j _ (by simp [hjl])
                        have CD := Lib.hid fun (W : World) (hf : Fr [] wi W) => rfinds_c vl l xn[j] false W (HL.out.same ((HF2.out.trans HW1.out).trans (HFi.out.trans hf)))
                        generalize xn[j] = z at *
                        obtain ⟨F, hF⟩ : ∃ F, findsB l z false = F := ⟨_, rfl⟩
                        rw [hF] at HT CD
                        have HQ : Hid ((false || (xn.take (j + 1)).any (fun n => findsB l n false)) = F) := Lib.hid (by rw [HT.out, HA.out]; rfl)
                        clear hF hc HT HA
                        go_wp2_with fail
                        refine (CD.out _ (Fr.refl _ _)).mono ?_
                        rintro e w2 ⟨rfl, rfl⟩
                        clear CD e0
                        go_wp2_with fail
                        clear g3
                        go_roundw
                        case rel => exact ⟨j + 1, F, by omega, by go_num, rfl, HQ, HFi⟩
                        case measure => simp [intOf]; omega
                    · obtain rfl : j = xn.length := by omega
                      rw [List.take_length] at HA
                      have HB1 := HA
                      have HS1 := HFi
                      clear HA HFi
                      go_wp2_with fail
                      clear g3
                      go_loopw [15, 17] (fun bv i wi => ∃ (j : Nat) (b2 : Bool), j ≤ xb_.length ∧ i = .int .i64 j ∧ bv = .bool b2 ∧ Hid ((bb || (xb_.take j).any (fun n => findsB l n true)) = b2) ∧ Hid (Fr [] w1 wi)) (fun _ i _ => xb_.length - (intOf i).toNat)
                      case atStart => exact ⟨0, _, Nat.zero_le _, rfl, rfl, Lib.hid (by simp), HS1⟩
                      case round =>
                        clear HS1
                        obtain ⟨j, b2, hj, rfl, rfl, HA, HFi⟩ := hrel
                        rename World => wi
                        have gk := HG.out _ HFi.out
                        have g4 := cell_of_blk gk 4
                        clear gk
                        by_cases hjl : j < xb_.length
                        · have HT : Hid ((bb || (xb_.take (j + 1)).any (fun n => findsB l n true)) = ((bb || (xb_.take j).any (fun n => findsB l n true)) || findsB l xb_[j] true)) := Lib.hid (by rw [any_take _ _ j hjl, Bool.or_assoc])
                          cases b2 with
                          | true =>
                            have HQ : Hid ((bb || (xb_.take (j + 1)).any (fun n => findsB l n true)) = true) := Lib.hid (by rw [HT.out, HA.out]; rfl)
                            clear HT HA
                            go_wp2_with fail
                            clear g4
                            go_roundw
                            case rel => exact ⟨j + 1, true, by omega, by go_num, rfl, HQ, HFi⟩
                            case measure => simp [intOf]; omega
                          | false =>
                            obtain ⟨eb, eo, rfl, hc⟩ := (HBA.out.same (HW1.out.trans HFi.out)).at_ (by omega)
                            have e0 : wi.cell? ⟨eb, eo + j, none⟩ = some (.int .i64 xb_[j]) := hc j _ (by simp [hjl])
                            have CD := Lib.hid fun (W : World) (hf : Fr [] wi W) => rfinds_c vl l xb_[j] true W (HL.out.same ((HF2.out.trans HW1.out).trans (HFi.out.trans hf)))
                            generalize xb_[j] = z at *
                            obtain ⟨F, hF⟩ : ∃ F, findsB l z true = F := ⟨_, rfl⟩
                            rw [hF] at HT CD
                            have HQ : Hid ((bb || (xb_.take (j + 1)).any (fun n => findsB l n true)) = F) := Lib.hid (by rw [HT.out, HA.out]; rfl)
                            clear hF hc HT HA
                            go_wp2_with fail
                            refine (CD.out _ (Fr.refl _ _)).mono ?_
                            rintro e w2 ⟨rfl, rfl⟩
                            clear CD e0
                            go_wp2_with fail
                            clear g4
                            go_roundw
                            case rel => exact ⟨j + 1, F, by omega, by go_num, rfl, HQ, HFi⟩
                            case measure => simp [intOf]; omega
                        · obtain rfl : j = xb_.length := by omega
                          rw [List.take_length] at HA
                          have HBR : Hid (barredB c l (k : Int) = b2) := Lib.hid (by unfold barredB; rw [HCX.out]; rw [← HA.out, ← HB1.out, Bool.false_or])
                          clear HA HB1
                          cases b2 with
                          | false =>
                            have HQ : Hid ((List.range c.cls.length).any (clauseI c ⟨th, sa, at_, kn⟩ xs l) = true) := Lib.hid (List.any_eq_true.2 ⟨k, by simp; omega, by unfold clauseI; rw [HM.out, HCX.out, HBR.out]; simp⟩)
                            go_wp2_with fail
                            go_ret
                            exact ⟨by rw [HX.out, HQ.out]; simp, (HF2.out.trans HW1.out).trans HFi.out⟩
                          | true =>
                            have HFN := Lib.hid (HW1.out.trans HFi.out)
                            go_wp2_with fail
                            clear g4
                            exact ⟨⟨k + 1, by omega, by go_num, Lib.hid (by rw [List.range_succ, List.any_append, HA0.out]; show (clauseI c ⟨th, sa, at_, kn⟩ xs l k || false) = false; unfold clauseI; rw [HBR.out]; simp), HFN⟩, by simp [intOf]; omega⟩
              · have hgg : (xg != xs) = true := by simpa using hg
                have HGX : Hid (decide (xg = xs) = false) := Lib.hid (by simpa using hg)
                clear hg
                go_wp2_with fail
                clear b0 b1 b2 q0 q1 q2 q3 d0 d1 d2 d3 x0 x1 x2 x3 x4 x5 hgg
                clear be0 be1 be2 qe0 qe1 qe2 qe3 de0 de1 de2 de3
                go_roundw
                case rel => exact ⟨k + 1, by omega, by go_num, Lib.hid (by rw [List.range_succ, List.any_append, HA0.out]; show (clauseI c ⟨th, sa, at_, kn⟩ xs l k || false) = false; unfold clauseI; rw [HCX.out, HGX.out]; simp), HFA⟩
                case measure => simp [intOf]; omega
            · obtain rfl : k = ys.length := by omega
              have HQ : Hid ((List.range c.cls.length).any (clauseI c ⟨th, sa, at_, kn⟩ xs l) = false) := Lib.hid (by rw [hcl]; exact HA0.out)
              go_wp2_with fail
              go_ret
              exact ⟨by rw [HX.out, HQ.out, HFALL.out]; simp, HF2.out.trans HF.out⟩
    · have hfb : (xcl != -1) = true := by simpa using hca
      have HQ : Hid (decide (xcl = -1) = false) := Lib.hid (by simpa using hca)
      clear hca
      have bk := HB.out _ (Fr.refl _ _)
      have b0 := cell_of_blk bk.1 0; have b1 := cell_of_blk bk.1 1; have b2 := cell_of_blk bk.1 2
      have q0 := cell_of_blk bk.2.1 0; have q1 := cell_of_blk bk.2.1 1; have q2 := cell_of_blk bk.2.1 2; have q3 := cell_of_blk bk.2.1 3
      have d0 := cell_of_blk bk.2.2 0; have d1 := cell_of_blk bk.2.2 1; have d2 := cell_of_blk bk.2.2 2; have d3 := cell_of_blk bk.2.2 3
      clear bk
      go_wp2_with fail
      go_ret
      exact ⟨by rw [HX.out, HQ.out]; simp, HF2.out⟩
  · have hfb : (xfa != -1) = true := by simpa using hfa
    have HQ : Hid (decide (xfa = -1) = false) := Lib.hid (by simpa using hfa)
    clear hfa
    have bk := HB.out _ (Fr.refl _ _)
    have b0 := cell_of_blk bk.1 0; have b1 := cell_of_blk bk.1 1; have b2 := cell_of_blk bk.1 2
    have q0 := cell_of_blk bk.2.1 0; have q1 := cell_of_blk bk.2.1 1; have q2 := cell_of_blk bk.2.1 2; have q3 := cell_of_blk bk.2.1 3
    have d0 := cell_of_blk bk.2.2 0; have d1 := cell_of_blk bk.2.2 1; have d2 := cell_of_blk bk.2.2 2; have d3 := cell_of_blk bk.2.2 3
    clear bk
    go_wp2_with fail
    go_ret
    exact ⟨by rw [HX.out, HQ.out]; simp, HF2.out⟩


theorem rright_c (vc vr vf vl : Value) (ys : List ClV) (c : Rb) (q : Qn) (x : Fd) (l : List Fd) (w : World) (h : RbAt w vc vr vf ys c) (hl : Sl w vl l.length (l.flatMap fdC)) :
    Calls Tryz.prog 55 #[rbV vc vr vf, qnV q, fdV x, vl] w fun e w' => e = .returned (.bool (rightB c (factsOf c q) (clausesOf c q) x l)) ∧ Fr [] w w' := by
  obtain ⟨xs, xh, xfa, xcl⟩ := x
  cases xh with
  | false => exact rightC_c vc vr vf vl ys c q xs xfa xcl l w h hl
  | true =>
    by_cases hc : xcl = -1
    · subst hc; exact rightA_c vc vr vf vl ys c q xs xfa l w h hl
    · exact rightB_c vc vr vf vl ys c q xs xfa xcl hc l w h hl

end Go.Proofs.YtfidioedjmjddaaGreat
