/-
  statute: so, over find.
-/
import Derived.Test.YtfidioedjmjddaaStJ
namespace Go.Proofs.Ytfidioedjmjddaa
open Go.RowKit Go.Lib Go.Maps

set_option maxRecDepth 100000 in
set_option maxHeartbeats 4000000 in
theorem so_of_find (J : Jn) (n : Nat) (hn : n < 20) (hF : FindOk J n) : SoOk J n := by
  intro w D hJ hD
  have c5 : w.cell? ⟨J.bj, 5, none⟩ = some (.map (some J.bm)) := cell_of_blk hJ.str 5
  obtain ⟨x, hrun, hx⟩ := hD.look n hn
  have HJ := Lib.hid hJ; have HD := Lib.hid hD; have HF := Lib.hid hF; clear hJ hD hF
  cases hh : Maps.has D (kL n) with
  | true =>
    have hx := hx hh
    subst hx
    rw [hh] at hrun
    have hso : J.so n = (J.fd n).holds := rfl
    rw [hso]
    generalize J.fd n = x at *
    obtain ⟨x0, x1, x2, x3⟩ := x
    simp only [fdV] at hrun ⊢
    clear hso
    go_enter Try.func22, Try.ntmps22
    go_wp2_with fail
    go_ret
    exact ⟨rfl, D, (JM.refl HJ.out HD.out).same (Fr.alloc _ _ _), hh⟩
  | false =>
    rw [hh] at hrun
    clear hx
    obtain ⟨x0, x1, x2, x3⟩ := x
    simp only [fdV] at hrun
    have CF := Lib.hid (HF.out (w.alloc (.cells #[.int .i64 x0, .bool x1, .int .i64 x2, .int .i64 x3] 58)) D (HJ.out.same (Fr.alloc _ _ _)) (HD.out.fr (Fr.alloc _ _ _)))
    have hso : J.so n = (J.fd n).holds := rfl
    rw [hso]
    clear hso
    have Hfd : Hid (J.fd n = J.fd n) := Lib.hid rfl
    go_enter Try.func22, Try.ntmps22
    go_wp2_with fail
    refine CF.out.mono ?_
    rintro e w1 ⟨rfl, D1, j1⟩
    have hbm : J.bm < w.heap.size := HD.out.own.lt
    have hne : w.heap.size ≠ J.bm := by omega
    have K1 := j1.fr.keep (heap_alloc_new w (.cells #[.int .i64 x0, .bool x1, .int .i64 x2, .int .i64 x3] 58)) (by simpa using hne)
    have J1 := Lib.hid j1; have HK1 := Lib.hid K1
    have g0 : w1.cell? ⟨w.heap.size, 0, none⟩ = some (.int .i64 x0) := cell_of_blk K1 0
    have g1 : w1.cell? ⟨w.heap.size, 1, none⟩ = some (.bool x1) := cell_of_blk K1 1
    have g2 : w1.cell? ⟨w.heap.size, 2, none⟩ = some (.int .i64 x2) := cell_of_blk K1 2
    have g3 : w1.cell? ⟨w.heap.size, 3, none⟩ = some (.int .i64 x3) := cell_of_blk K1 3
    have z0 := free_of_blk K1 0
    have z1 := free_of_blk K1 1
    have z2 := free_of_blk K1 2
    have z3 := free_of_blk K1 3
    clear j1 K1
    go_wp2_with fail
    have f3 : Fr [w.heap.size] w1 ((((w1.setCell ⟨w.heap.size, 0, none⟩ (.int .i64 (J.fd n).says)).setCell ⟨w.heap.size, 1, none⟩ (.bool (J.fd n).holds)).setCell ⟨w.heap.size, 2, none⟩ (.int .i64 (J.fd n).fact)).setCell ⟨w.heap.size, 3, none⟩ (.int .i64 (J.fd n).cl)) := (((Fr.setCell _ _ (by simp)).trans (Fr.setCell _ _ (by simp))).trans (Fr.setCell _ _ (by simp))).trans (Fr.setCell _ _ (by simp))
    have K3 := heap_setCell_same (i := 3) (.int .i64 (J.fd n).cl) (heap_setCell_same (i := 2) (.int .i64 (J.fd n).fact) (heap_setCell_same (i := 1) (.bool (J.fd n).holds) (heap_setCell_same (i := 0) (.int .i64 (J.fd n).says) HK1.out)))
    generalize (((w1.setCell ⟨w.heap.size, 0, none⟩ (.int .i64 (J.fd n).says)).setCell ⟨w.heap.size, 1, none⟩ (.bool (J.fd n).holds)).setCell ⟨w.heap.size, 2, none⟩ (.int .i64 (J.fd n).fact)).setCell ⟨w.heap.size, 3, none⟩ (.int .i64 (J.fd n).cl) = W3 at *
    clear g0 g1 g2 g3 z0 z1 z2 z3 HK1 CF
    have k0 : W3.cell? ⟨w.heap.size, 0, none⟩ = some (.int .i64 (J.fd n).says) := cell_of_blk K3 0
    have k1 : W3.cell? ⟨w.heap.size, 1, none⟩ = some (.bool (J.fd n).holds) := cell_of_blk K3 1
    have k2 : W3.cell? ⟨w.heap.size, 2, none⟩ = some (.int .i64 (J.fd n).fact) := cell_of_blk K3 2
    have k3 : W3.cell? ⟨w.heap.size, 3, none⟩ = some (.int .i64 (J.fd n).cl) := cell_of_blk K3 3
    have fw : Fr [J.bm] w W3 := ((Fr.alloc [J.bm] _ _).trans J1.out.fr).step f3 (fun i hi => by simp at hi; exact .inr (by omega))
    have js3 := HJ.out.frM fw HD.out.map
    have fd3 := J1.out.found.fr' f3 (by simp; omega)
    have hh1 : Maps.has D1 (kL n) = false := by rw [J1.out.up n (by omega) hn]; exact hh
    obtain ⟨w4, D4, hput, fd4, f4, has4, oth4⟩ := (fd3.fr (Fr.drew [] W3)).put n hn hh1
    have c5' : W3.cell? ⟨J.bj, 5, none⟩ = some (.map (some J.bm)) := cell_of_blk js3.str 5
    have K4 := f4.keep (w := W3.drew) K3 (by simpa using hne)
    have m1 : w4.cell? ⟨w.heap.size, 1, none⟩ = some (.bool (J.fd n).holds) := cell_of_blk K4 1
    have HE : Hid (JM J (n + 1) w D w4 D4 ∧ Maps.has D4 (kL n) = true) := Lib.hid ⟨⟨(js3.same (Fr.drew [] W3)).frM f4 (fd3.fr (Fr.drew [] W3)).map, fd4, fw.trans ((Fr.drew _ _).trans f4), fun k hk h1 => by
      by_cases hkn : k = n
      · subst hkn; exact has4
      · rw [oth4 k hkn]; exact J1.out.mono k hk h1, fun k h1 h2 => by
      rw [oth4 k (by omega)]; exact J1.out.up k (by omega) h2⟩, has4⟩
    clear js3 fd3 fd4 f4 oth4 K3 K4 fw f3 has4
    simp only [fdV] at hput
    obtain ⟨y, hy⟩ : ∃ y, J.fd n = y := ⟨_, rfl⟩
    rw [hy] at hput k0 k1 k2 k3 m1
    rw [hy]
    have HY := Lib.hid hy
    clear hy
    obtain ⟨y0, y1, y2, y3⟩ := y
    simp only at hput k0 k1 k2 k3 m1 ⊢
    go_region
    all_goals
      go_wp2_with fail
      go_ret
      exact ⟨by rw [HY.out]; rfl, D4, HE.out⟩

end Go.Proofs.Ytfidioedjmjddaa
