/-
  The law's helper sane: the fixed examples.
-/
import Derived.Test.YtanjjgodlgmfcaaL9a
namespace Go.Proofs.Ytanjjgodlgmfcaa
open Go.RowKit Go.Lib

theorem intsB_lit2 (w : World) (x y : Int) : IntsB (w.alloc (.cells #[.int .i64 x, .int .i64 y] 3)).heap.size (w.alloc (.cells #[.int .i64 x, .int .i64 y] 3)) (.slice (some ⟨w.heap.size, 0, none⟩) 2 2) [x, y] :=
  .inr ⟨w.heap.size, 0, 2, rfl, by simp, fun j hj => by
    rw [Nat.zero_add, cell_of_blk (heap_alloc_new w _)]
    match j, hj with
    | 0, _ => rfl
    | 1, _ => rfl⟩

set_option maxRecDepth 1000000 in
set_option maxHeartbeats 4000000 in
theorem sane_c (w : World) : Calls Try.prog 12 #[] w fun e w' => e = .returned (.bool true) ∧ Fr [] w w' := by
  have cN : Hid (∀ w, Calls Try.prog 13 #[.int .i64 4] w fun e w' => ∃ b fp, e = .returned (.tuple #[.pointer (some ⟨b, 0, none⟩), .int .i64 0]) ∧ Own w w' b fp (Dk.new 4)) := Lib.hid fun w => new_own 4 w (by omega) (by omega)
  have cN0 : Hid (∀ w, Calls Try.prog 13 #[.int .i64 0] w fun e w' => e = .returned (.tuple #[.pointer none, .int .i64 2]) ∧ w = w') := Lib.hid fun w => new_bad 0 w (by omega)
  go_enter Try.func12, Try.ntmps12
  go_wp2_with fail
  refine (cN.out w).mono ?_
  rintro e w1 ⟨b, fp, rfl, o1⟩
  have O1 := Lib.hid o1; clear o1
  go_wp2_with fail
  refine (cN0.out w1).mono ?_
  rintro e w1' ⟨rfl, rfl⟩
  go_wp2_with fail
  have c2 : Calls Try.prog 21 #[.pointer (some ⟨b, 0, none⟩), .int .i64 0, .string ⟨#[97, 98]⟩] w1 (OwnStep w b (.int .i64 0) sD1) := write_own O1.out 0 ⟨#[97, 98]⟩ (by omega) (by omega) (by decide) (by decide)
  refine c2.mono ?_
  clear c2
  rintro e w2 ⟨rfl, fp2, o2⟩
  have O2 := Lib.hid o2; clear o2
  go_wp2_with fail
  have c2 : Calls Try.prog 21 #[.pointer (some ⟨b, 0, none⟩), .int .i64 1, .string ⟨#[120, 121]⟩] w2 (OwnStep w b (.int .i64 0) sD2) := write_own O2.out 1 ⟨#[120, 121]⟩ (by omega) (by omega) (by decide) (by decide)
  refine c2.mono ?_
  clear c2
  rintro e w3 ⟨rfl, fp3, o3⟩
  have O3 := Lib.hid o3; clear o3
  go_wp2_with fail
  have c2 : Calls Try.prog 21 #[.pointer (some ⟨b, 0, none⟩), .int .i64 3, .string ⟨#[122, 122]⟩] w3 (OwnStep w b (.int .i64 90) sD2) := write_own O3.out 3 ⟨#[122, 122]⟩ (by omega) (by omega) (by decide) (by decide)
  refine c2.mono ?_
  clear c2
  rintro e w4 ⟨rfl, fp4, o4⟩
  have O4 := Lib.hid o4; clear o4
  go_wp2_with fail
  have c2 : Calls Try.prog 14 #[.pointer (some ⟨b, 0, none⟩), .int .i64 0, .int .i64 4] w4 fun e w' => e = .returned (.tuple #[.string ⟨#[97, 120, 121, 0]⟩, .int .i64 0]) ∧ w4 = w' := read_own O4.out 0 4 (by omega) (by omega) (by omega) (by omega)
  refine c2.mono ?_
  clear c2
  rintro e w4' ⟨rfl, rfl⟩
  go_wp2_with fail
  have c2 : Calls Try.prog 17 #[.pointer (some ⟨b, 0, none⟩)] w4 fun e w' => e = .returned (.int .i64 2) ∧ w4 = w' := pending_own O4.out
  refine c2.mono ?_
  clear c2
  rintro e w4' ⟨rfl, rfl⟩
  go_wp2_with fail
  have c2 : Calls Try.prog 25 #[.pointer (some ⟨b, 0, none⟩), .slice (some ⟨w4.heap.size, 0, none⟩) 2 2, .int .i64 1] (w4.alloc (.cells #[.int .i64 1, .int .i64 0] 3)) (OwnStep w b (.int .i64 0) sD3) :=
    crash_own (O4.out.same (Fr.alloc _ _ _)) _ [1, 0] 1 (intsB_lit2 w4 1 0) (by decide) (by intro x hx; simp at hx; omega) (by omega) (by omega)
  refine c2.mono ?_
  clear c2
  rintro e w5 ⟨rfl, fp5, o5⟩
  have O5 := Lib.hid o5; clear o5
  go_wp2_with fail
  have c2 : Calls Try.prog 14 #[.pointer (some ⟨b, 0, none⟩), .int .i64 0, .int .i64 4] w5 fun e w' => e = .returned (.tuple #[.string ⟨#[97, 120, 0, 0]⟩, .int .i64 0]) ∧ w5 = w' := by
    have h := read_own O5.out 0 4 (by omega) (by omega) (by omega) (by omega)
    rw [sD3_eq] at h
    exact h
  refine c2.mono ?_
  clear c2
  rintro e w5' ⟨rfl, rfl⟩
  go_wp2_with fail
  have c2 : Calls Try.prog 24 #[.pointer (some ⟨b, 0, none⟩), .int .i64 1] w5 (OwnStep w b (.int .i64 0) sD4) := by
    have h := cut_own O5.out 1 (by omega)
    rw [show sD3.cutE 1 = 0 by rw [sD3_eq]; rfl] at h
    exact h
  refine c2.mono ?_
  clear c2
  rintro e w6 ⟨rfl, fp6, o6⟩
  have O6 := Lib.hid o6; clear o6
  go_wp2_with fail
  have c2 : Calls Try.prog 21 #[.pointer (some ⟨b, 0, none⟩), .int .i64 3, .string ⟨#[113]⟩] w6 (OwnStep w b (.int .i64 0) sD5) := by
    have h := write_own O6.out 3 ⟨#[113]⟩ (by omega) (by omega) (by decide) (by rw [sD4, sD3_eq]; decide)
    rw [show sD4.writeE 3 ⟨#[113]⟩ = 0 by rw [sD4, sD3_eq]; rfl] at h
    exact h
  refine c2.mono ?_
  clear c2
  rintro e w7 ⟨rfl, fp7, o7⟩
  have O7 := Lib.hid o7; clear o7
  go_wp2_with fail
  have c2 : Calls Try.prog 23 #[.pointer (some ⟨b, 0, none⟩)] w7 (OwnStep w b (.int .i64 91) sD5) := by
    have h := sync_own O7.out
    rw [show sD5.syncE = 91 by rw [sD5_eq]; rfl, show sD5.syncD = sD5 by rw [sD5_eq]; rfl] at h
    exact h
  refine c2.mono ?_
  clear c2
  rintro e w8 ⟨rfl, fp8, o8⟩
  have O8 := Lib.hid o8; clear o8
  go_wp2_with fail
  have c2 : Calls Try.prog 16 #[.pointer (some ⟨b, 0, none⟩)] w8 fun e w' => e = .returned (.int .i64 4) ∧ w8 = w' := by
    have h := size_own O8.out
    rw [sD5_eq] at h
    exact h
  refine c2.mono ?_
  clear c2
  rintro e w8' ⟨rfl, rfl⟩
  go_wp2_with fail
  go_ret
  exact ⟨rfl, O8.out.fr⟩

end Go.Proofs.Ytanjjgodlgmfcaa
