/-
  statute: isIn, isSecond, isSpell, has, Asks, states.
-/
import Derived.Test.YtfidioedjmjddaaRows
import Derived.Test.YtfidioedjmjddaaStB
import Derived.Deep.QuietTactic
import Derived.BigQuiet
import Derived.Deep.RegionLaw
import Derived.Deep.RegionHeld3
namespace Go.Proofs.Ytfidioedjmjddaa
open Go.RowKit Go.Lib

theorem isIn_c (n lo hi : Int) (w : World) : Calls Try.prog 33 #[.int .i64 n, .int .i64 lo, .int .i64 hi] w fun e w' => e = .returned (.bool (isInB n lo hi)) ∧ w = w' := by
  unfold isInB
  by_cases h : lo ≤ n
  · go_enter Try.func33, Try.ntmps33
    go_wp2
    go_ret
    exact ⟨by simp [h], rfl⟩
  · go_enter Try.func33, Try.ntmps33
    go_wp2
    go_ret
    exact ⟨by have h2 : ¬ lo ≤ n := by omega
              simp [h2], rfl⟩

theorem isSecond_c (n : Int) (w : World) : Calls Try.prog 31 #[.int .i64 n] w fun e w' => e = .returned (.bool (secB n)) ∧ w = w' := by
  have c := Lib.hid (isIn_c n 0 10000000 w)
  go_enter Try.func31, Try.ntmps31
  go_wp2_with (go_at_call 33; refine c.out.mono ?_; rintro e w' ⟨rfl, rfl⟩)
  go_ret
  exact ⟨rfl, rfl⟩

theorem isSpell_c (f t : Int) (w : World) : Calls Try.prog 32 #[.agg #[.int .i64 f, .int .i64 t]] w fun e w' => e = .returned (.bool (spellB f t)) ∧ Fr [] w w' := by
  have c1 := Lib.hid (fun w => isSecond_c f w)
  have c2 := Lib.hid (fun w => isIn_c t (f + 1) 10000001 w)
  unfold spellB
  cases h : secB f with
  | false =>
    rw [h] at c1
    go_enter Try.func32, Try.ntmps32
    go_wp2_with (first | (go_at_call 31; refine (c1.out _).mono ?_; rintro e w' ⟨rfl, rfl⟩))
    go_ret
    exact ⟨rfl, Fr.alloc _ _ _⟩
  | true =>
    have hb : 0 ≤ f ∧ f ≤ 10000000 := isInB_iff.1 h
    rw [h] at c1
    generalize isInB t (f + 1) 10000001 = b at *
    go_enter Try.func32, Try.ntmps32
    go_wp2_with (first | (go_at_call 31; refine (c1.out _).mono ?_; rintro e w' ⟨rfl, rfl⟩) | (go_at_call 33; refine (c2.out _).mono ?_; rintro e w' ⟨rfl, rfl⟩))
    go_ret
    exact ⟨rfl, Fr.alloc _ _ _⟩

theorem has_c (f t s : Int) (w : World) (ht : -9223372036854775807 ≤ t ∧ t ≤ 9223372036854775807) : Calls Try.prog 43 #[.agg #[.int .i64 f, .int .i64 t], .int .i64 s] w fun e w' => e = .returned (.bool (hasB f t s)) ∧ Fr [] w w' := by
  have c2 := Lib.hid (fun w => isIn_c s f (t - 1) w)
  unfold hasB
  generalize isInB s f (t - 1) = b at *
  go_enter Try.func43, Try.ntmps43
  go_wp2_with (first | (go_at_call 33; refine (c2.out _).mono ?_; rintro e w' ⟨rfl, rfl⟩))
  go_ret
  exact ⟨rfl, Fr.alloc _ _ _⟩

set_option maxRecDepth 100000 in
set_option maxHeartbeats 800000 in
theorem asks_c (q : Qn) (w : World) : Calls Try.prog 17 #[qnV q] w fun e w' => e = .returned (.bool (asksB q)) ∧ Fr [] w w' := by
  obtain ⟨th, sa, a, k⟩ := q
  unfold asksB qnV
  simp only
  cases h1 : isInB th 0 99999999 <;> cases h2 : isInB sa 0 19 <;> cases h3 : secB a
  all_goals
    go_enter Try.func17, Try.ntmps17
    go_wp2_with (first | (go_at_call 33; refine (isIn_c _ _ _ _).mono ?_; rintro e w' ⟨rfl, rfl⟩) | (go_at_call 31; refine (isSecond_c _ _).mono ?_; rintro e w' ⟨rfl, rfl⟩))
    go_ret
    exact ⟨rfl, Fr.alloc _ _ _⟩

set_option maxRecDepth 100000 in
set_option maxHeartbeats 800000 in
theorem states_c (x : Fa) (q : Qn) (w : World) (hx : faB x = true) : Calls Try.prog 27 #[faV x, qnV q] w fun e w' => e = .returned (.bool (statesB x q)) ∧ Fr [] w w' := by
  obtain ⟨qt, qs, qa, qk⟩ := q
  obtain ⟨th, sa, f, t, kf, kt⟩ := x
  simp only [faB, spellB, secB, Bool.and_eq_true, isInB_iff] at hx
  have b1 : -9223372036854775807 ≤ t ∧ t ≤ 9223372036854775807 := ⟨by omega, by omega⟩
  have b2 : -9223372036854775807 ≤ kt ∧ kt ≤ 9223372036854775807 := ⟨by omega, by omega⟩
  clear hx
  have B1 := Lib.hid b1; have B2 := Lib.hid b2; clear b1 b2
  unfold statesB qnV faV
  simp only
  by_cases h1 : th = qt
  · subst h1
    cases h2 : hasB f t qa
    all_goals
      go_enter Try.func27, Try.ntmps27
      go_wp2_with fail
      refine (has_c f t qa _ B1.out).mono ?_
      rintro e w1 ⟨rfl, f1⟩
      have k0 := f1.keep (heap_alloc_old _ (heap_alloc_new w (.cells #[.int .i64 th, .int .i64 sa, .int .i64 f, .int .i64 t, .int .i64 kf, .int .i64 kt] 50))) (by simp)
      have k1 := f1.keep (heap_alloc_new (w.alloc (.cells #[.int .i64 th, .int .i64 sa, .int .i64 f, .int .i64 t, .int .i64 kf, .int .i64 kt] 50)) (.cells #[.int .i64 th, .int .i64 qs, .int .i64 qa, .int .i64 qk] 40)) (by simp)
      have d4 : w1.cell? ⟨w.heap.size, 4, none⟩ = some (.int .i64 kf) := cell_of_blk k0 4
      have d5 : w1.cell? ⟨w.heap.size, 5, none⟩ = some (.int .i64 kt) := cell_of_blk k0 5
      have e3 : w1.cell? ⟨w.heap.size + 1, 3, none⟩ = some (.int .i64 qk) := by simpa using cell_of_blk k1 3
      have F1 := Lib.hid (((Fr.alloc [] _ _).trans (Fr.alloc [] _ _)).trans f1)
      clear k0 k1 f1
      go_wp2_with (first | (go_at_call 43; refine (has_c kf kt qk _ B2.out).mono ?_; rintro e w2 ⟨rfl, f2⟩))
      go_ret
      first
        | exact ⟨by simp, F1.out⟩
        | exact ⟨by simp, F1.out.trans f2⟩
  · go_enter Try.func27, Try.ntmps27
    go_wp2_with fail
    go_ret
    exact ⟨by simp [h1], (Fr.alloc _ _ _).trans (Fr.alloc _ _ _)⟩

end Go.Proofs.Ytfidioedjmjddaa
