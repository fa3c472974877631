/-
  filter: isIn, isNumber, isAction, the kinds of conditions, isCall.
-/
import Derived.Test.YtkopnooajikpmaaGreatQFB
namespace Go.Proofs.YtkopnooajikpmaaGreat
open Go.RowKit Go.Lib

theorem fIsIn_c (n lo hi : Int) (w : World) : Calls Tryz.prog 80 #[.int .i64 n, .int .i64 lo, .int .i64 hi] w fun e w' => e = .returned (.bool (isInB n lo hi)) ∧ w = w' := by
  unfold isInB
  by_cases h : lo ≤ n
  · go_enter Tryz.func80, Tryz.ntmps80
    go_wp2
    go_ret
    exact ⟨by simp [h], rfl⟩
  · go_enter Tryz.func80, Tryz.ntmps80
    go_wp2
    go_ret
    exact ⟨by have h2 : ¬ lo ≤ n := by omega
              simp [h2], rfl⟩

theorem fIsNumber_c (n : Int) (w : World) : Calls Tryz.prog 130 #[.int .i64 n] w fun e w' => e = .returned (.bool (isInB n 0 99999999)) ∧ w = w' := by
  go_enter Tryz.func130, Tryz.ntmps130
  go_wp2_with (first | (go_at_call 80; refine (fIsIn_c _ _ _ _).mono ?_; rintro e w' ⟨rfl, rfl⟩))
  go_ret
  exact ⟨rfl, rfl⟩

theorem fIsAction_c (n : Int) (w : World) : Calls Tryz.prog 101 #[.int .i64 n] w fun e w' => e = .returned (.bool (actB n)) ∧ w = w' := by
  go_enter Tryz.func101, Tryz.ntmps101
  go_wp2_with (first | (go_at_call 80; refine (fIsIn_c _ _ _ _).mono ?_; rintro e w' ⟨rfl, rfl⟩))
  go_ret
  exact ⟨rfl, rfl⟩

set_option maxRecDepth 100000 in
theorem fLevel_c (x : Cd) (w : World) : Calls Tryz.prog 123 #[cdV x] w fun e w' => e = .returned (.bool (isInB x.lo 0 x.hi && decide (x.hi ≤ 3))) ∧ Fr [] w w' := by
  obtain ⟨k, lo, hi, ng⟩ := x
  unfold cdV
  simp only
  cases h1 : isInB lo 0 hi
  all_goals
    go_enter Tryz.func123, Tryz.ntmps123
    go_wp2_with (first | (go_at_call 80; refine (fIsIn_c _ _ _ _).mono ?_; rintro e w' ⟨rfl, rfl⟩))
    go_ret
    exact ⟨rfl, Fr.alloc _ _ _⟩

set_option maxRecDepth 100000 in
theorem fForwards_c (x : Cd) (w : World) : Calls Tryz.prog 126 #[cdV x] w fun e w' => e = .returned (.bool (isInB x.lo 0 x.hi && decide (x.hi ≤ 5))) ∧ Fr [] w w' := by
  obtain ⟨k, lo, hi, ng⟩ := x
  unfold cdV
  simp only
  cases h1 : isInB lo 0 hi
  all_goals
    go_enter Tryz.func126, Tryz.ntmps126
    go_wp2_with (first | (go_at_call 80; refine (fIsIn_c _ _ _ _).mono ?_; rintro e w' ⟨rfl, rfl⟩))
    go_ret
    exact ⟨rfl, Fr.alloc _ _ _⟩

set_option maxRecDepth 100000 in
theorem fSays_c (x : Cd) (w : World) : Calls Tryz.prog 127 #[cdV x] w fun e w' => e = .returned (.bool (isInB x.lo 0 19 && decide (x.hi = 0))) ∧ Fr [] w w' := by
  obtain ⟨k, lo, hi, ng⟩ := x
  unfold cdV
  simp only
  cases h1 : isInB lo 0 19
  all_goals
    go_enter Tryz.func127, Tryz.ntmps127
    go_wp2_with (first | (go_at_call 80; refine (fIsIn_c _ _ _ _).mono ?_; rintro e w' ⟨rfl, rfl⟩))
    go_ret
    exact ⟨rfl, Fr.alloc _ _ _⟩

set_option maxRecDepth 100000 in
theorem fRange_c (x : Cd) (w : World) : Calls Tryz.prog 124 #[cdV x] w fun e w' => e = .returned (.bool (decide (0 ≤ x.lo) && decide (x.lo < x.hi) && decide (x.hi ≤ 100000000))) ∧ Fr [] w w' := by
  obtain ⟨k, lo, hi, ng⟩ := x
  unfold cdV
  simp only
  by_cases h1 : 0 ≤ lo
  · by_cases h2 : lo < hi
    · go_enter Tryz.func124, Tryz.ntmps124
      go_wp2_with fail
      go_ret
      exact ⟨by simp [h1, h2], Fr.alloc _ _ _⟩
    · have h2' : decide (lo < hi) = false := by simpa using h2
      clear h2
      go_enter Tryz.func124, Tryz.ntmps124
      go_wp2_with fail
      go_ret
      exact ⟨by simp [h2'], Fr.alloc _ _ _⟩
  · have h1' : decide (0 ≤ lo) = false := by simpa using h1
    clear h1
    go_enter Tryz.func124, Tryz.ntmps124
    go_wp2_with fail
    go_ret
    exact ⟨by simp [h1'], Fr.alloc _ _ _⟩

set_option maxRecDepth 100000 in
theorem fHours_c (x : Cd) (w : World) : Calls Tryz.prog 125 #[cdV x] w fun e w' => e = .returned (.bool (decide (x.lo ≠ x.hi) && isInB x.lo 0 86399 && isInB x.hi 0 86399)) ∧ Fr [] w w' := by
  obtain ⟨k, lo, hi, ng⟩ := x
  unfold cdV
  simp only
  by_cases h0 : lo = hi
  · subst h0
    go_enter Tryz.func125, Tryz.ntmps125
    go_wp2_with fail
    go_ret
    exact ⟨by simp, Fr.alloc _ _ _⟩
  · have h0' : (lo != hi) = true := by simpa using h0
    have e0 : decide (lo ≠ hi) = true := by simpa using h0
    rw [e0]
    clear h0 e0
    cases h1 : isInB lo 0 86399
    all_goals
      go_enter Tryz.func125, Tryz.ntmps125
      go_wp2_with (first | (go_at_call 80; refine (fIsIn_c _ _ _ _).mono ?_; rintro e w' ⟨rfl, rfl⟩))
      go_ret
      exact ⟨by simp, Fr.alloc _ _ _⟩

set_option maxRecDepth 100000 in
set_option maxHeartbeats 1000000 in
theorem fIsCall_c (c : Ca) (w : World) : Calls Tryz.prog 105 #[caV c] w fun e w' => e = .returned (.bool (caB c)) ∧ Fr [] w w' := by
  obtain ⟨ca, cd, at_, lv, fw, bk⟩ := c
  unfold caV caB
  simp only
  cases h1 : isInB ca 0 99999999 <;> cases h2 : isInB cd 0 99999999 <;> cases h3 : isInB at_ 0 10000000 <;> cases h4 : isInB lv 0 3
  all_goals
    go_enter Tryz.func105, Tryz.ntmps105
    go_wp2_with (first | (go_at_call 80; refine (fIsIn_c _ _ _ _).mono ?_; rintro e w' ⟨rfl, rfl⟩) | (go_at_call 130; refine (fIsNumber_c _ _).mono ?_; rintro e w' ⟨rfl, rfl⟩))
    go_ret
    exact ⟨rfl, Fr.alloc _ _ _⟩

end Go.Proofs.YtkopnooajikpmaaGreat
