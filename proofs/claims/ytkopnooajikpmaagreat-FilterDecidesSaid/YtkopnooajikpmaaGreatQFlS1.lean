/-
  dialtonelaw26: example; dialtoneref26: Like.
-/
import Derived.Test.YtkopnooajikpmaaGreatQFlR1
import Derived.Test.YtkopnooajikpmaaGreatQL8
namespace Go.Proofs.YtkopnooajikpmaaGreat
open Go.RowKit Go.Lib

def exF : Fl := ⟨[⟨[⟨1, 0, 1, false⟩, ⟨2, 500, 600, false⟩], 4⟩, ⟨[⟨3, 79200, 21600, false⟩, ⟨1, 3, 3, true⟩], 3⟩], 1⟩
def rb0 : Rb := ⟨[], [], []⟩
theorem rb0_at (w : World) : RbAt w (.slice none 0 0) (.slice none 0 0) (.slice none 0 0) [] rb0 :=
  ⟨rfl, ⟨Sl.nil _, fun y hy => (by cases hy), fun y hy => (by cases hy)⟩, Sl.nil _, Sl.nil _, ⟨fun x hx => (by cases hx), fun x hx => (by cases hx), fun x hx => (by cases hx)⟩⟩

set_option maxRecDepth 100000 in
set_option maxHeartbeats 2000000 in
theorem example26_c (w : World) : Calls Tryz.prog 73 #[] w fun e w' => Fr [] w w' ∧ ∃ ad ys, e = .returned (flV (.slice (some ad) 2 2) 1) ∧ FlAt w' (.slice (some ad) 2 2) ys exF := by
  go_enter Tryz.func73, Tryz.ntmps73
  go_wp2_with fail
  go_returns
  have HA := allocs_at [.cells #[.slice (some ⟨w.heap.size + 1 + 1 + 1, 0, none⟩) 2 2, .int .i64 1] 65, .cells #[.int .i64 1, .int .i64 0, .int .i64 1, .bool false, .int .i64 2, .int .i64 500, .int .i64 600, .bool false] 93, .cells #[.int .i64 3, .int .i64 79200, .int .i64 21600, .bool false, .int .i64 1, .int .i64 3, .int .i64 3, .bool true] 93, .cells #[.slice (some ⟨w.heap.size + 1, 0, none⟩) 2 2, .int .i64 4, .slice (some ⟨w.heap.size + 1 + 1, 0, none⟩) 2 2, .int .i64 3] 82] w
  have h1 := HA 1 (by simp); have h2 := HA 2 (by simp); have h3 := HA 3 (by simp)
  refine ⟨((((Fr.alloc _ _ _).trans (Fr.alloc _ _ _)).trans (Fr.alloc _ _ _)).trans (Fr.alloc _ _ _)), ⟨w.heap.size + 1 + 1 + 1, 0, none⟩, [⟨⟨[⟨1, 0, 1, false⟩, ⟨2, 500, 600, false⟩], 4⟩, .slice (some ⟨w.heap.size + 1, 0, none⟩) 2 2⟩, ⟨⟨[⟨3, 79200, 21600, false⟩, ⟨1, 3, 3, true⟩], 3⟩, .slice (some ⟨w.heap.size + 1 + 1, 0, none⟩) 2 2⟩], rfl, rfl, sl_blk h3 rfl (by omega) (by omega), fun y hy => ?_, fun y hy => ?_, by constructor <;> simp [exF]⟩
  · simp only [List.mem_cons, List.not_mem_nil, or_false] at hy
    rcases hy with rfl | rfl
    · exact sl_blk h1 rfl (by omega) (by omega)
    · exact sl_blk h2 rfl (by omega) (by omega)
  · simp only [List.mem_cons, List.not_mem_nil, or_false] at hy
    rcases hy with rfl | rfl
    · refine ⟨by constructor <;> simp, fun x hx => ?_⟩
      simp only [List.mem_cons, List.not_mem_nil, or_false] at hx
      rcases hx with rfl | rfl <;> (constructor <;> simp [I64])
    · refine ⟨by constructor <;> simp, fun x hx => ?_⟩
      simp only [List.mem_cons, List.not_mem_nil, or_false] at hx
      rcases hx with rfl | rfl <;> (constructor <;> simp [I64])

set_option maxRecDepth 100000 in
set_option maxHeartbeats 2000000 in
theorem like26_c (aa ar ba br : Int) (vF vF' : Value) (F F' : List Int) (p p' : Option Addr) (n n' m m' : Nat) (w : World) (hF : IntsAt w vF F) (hF' : IntsAt w vF' F') :
    Calls Tryz.prog 39 #[dnV aa ar vF (.slice p n m), dnV ba br vF' (.slice p' n' m')] w fun e w' => e = .returned (.bool (decide (aa = ba) && decide (ar = br) && decide (F = F') && decide (n = n'))) ∧ Fr [] w w' := by
  obtain ⟨af, pf, rfl⟩ := hF.val
  obtain ⟨af', pf', rfl⟩ := hF'.val
  have FA : Hid (Fr [] w ((w.alloc (.cells #[.int .i64 aa, .int .i64 ar, .slice af F.length pf, .slice p n m] 62)).alloc (.cells #[.int .i64 ba, .int .i64 br, .slice af' F'.length pf', .slice p' n' m'] 62))) := Lib.hid ((Fr.alloc _ _ _).trans (Fr.alloc _ _ _))
  have HA := Lib.hid (alloc2' w (.cells #[.int .i64 aa, .int .i64 ar, .slice af F.length pf, .slice p n m] 62) (.cells #[.int .i64 ba, .int .i64 br, .slice af' F'.length pf', .slice p' n' m'] 62))
  have CI := Lib.hid (ints26_c _ _ _ _ _ (hF.same FA.out) (hF'.same FA.out))
  clear hF hF'
  by_cases h1 : aa = ba
  · by_cases h2 : ar = br
    · by_cases h3 : F = F'
      · subst h1 h2 h3
        have HN : Hid (((n : Int) == n') = decide (n = n')) := Lib.hid (by
          by_cases h : n = n'
          · subst h; simp
          · have : ¬ (n : Int) = n' := by omega
            rw [decide_eq_false h]; simpa using this)
        simp only [decide_true, Bool.true_and] at CI ⊢
        go_enter Tryz.func39, Tryz.ntmps39
        go_wp2_with fail
        refine CI.out.mono ?_
        rintro e w1 ⟨rfl, f1⟩
        have c3 : w1.cell? ⟨w.heap.size, 3, none⟩ = some (.slice p n m) := cell_of_blk (f1.keep HA.out.1 (by simp)) 3
        have d3 : w1.cell? ⟨w.heap.size + 1, 3, none⟩ = some (.slice p' n' m') := cell_of_blk (f1.keep HA.out.2 (by simp)) 3
        go_wp2_with fail
        go_ret
        exact ⟨by rw [← HN.out]; rfl, FA.out.trans f1⟩
      · subst h1 h2
        have HD : Hid (decide (F = F') = false) := Lib.hid (decide_eq_false h3)
        rw [HD.out] at CI ⊢
        simp only [decide_true, Bool.true_and, Bool.false_and]
        clear h3
        go_enter Tryz.func39, Tryz.ntmps39
        go_wp2_with fail
        refine CI.out.mono ?_
        rintro e w1 ⟨rfl, f1⟩
        go_wp2_with fail
        go_ret
        exact ⟨rfl, FA.out.trans f1⟩
    · subst h1
      have hb : (ar == br) = false := by simpa using h2
      rw [decide_eq_false h2]
      simp only [decide_true, Bool.true_and, Bool.false_and]
      go_enter Tryz.func39, Tryz.ntmps39
      go_wp2_with fail
      go_ret
      exact ⟨rfl, FA.out⟩
  · have hb : (aa == ba) = false := by simpa using h1
    rw [decide_eq_false h1]
    simp only [Bool.false_and]
    go_enter Tryz.func39, Tryz.ntmps39
    go_wp2_with fail
    go_ret
    exact ⟨rfl, FA.out⟩

end Go.Proofs.YtkopnooajikpmaaGreat
