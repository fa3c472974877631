/-
  wire: the groups of seven bits, and PutInt.
-/
import Derived.Test.YtklmefkbkphceaaDoorQDg7
import Derived.Test.YtklmefkbkphceaaDoorQRfW0
import Derived.Test.YtklmefkbkphceaaDoorQJnM
namespace Go.Proofs.YtklmefkbkphceaaDoor
open Go.RowKit Go.Shelf Go.Lib

attribute [local go_sem] Oper.semAt_some

/-- The groups, the least first, and whether each is the last one. -/
def grpL (z : Nat) : List (Int × Bool) := if z < 128 then [((z : Int), true)] else ((z : Int) % 128, false) :: grpL (z / 128)
termination_by z
decreasing_by omega
theorem grpL_one {z : Nat} (h : z < 128) : grpL z = [((z : Int), true)] := by rw [grpL, if_pos h]
theorem grpL_more {z : Nat} (h : ¬ z < 128) : grpL z = ((z : Int) % 128, false) :: grpL (z / 128) := by rw [grpL, if_neg h]
abbrev grpE (x : Int × Bool) : Array Value := #[.int .u8 x.1, .bool x.2]
theorem and127 (c : Nat) (hc : c < 18446744073709551616) : bits .and .u64 (c : Int) 127 = (c : Int) % 128 := by
  have h := bits_and_u64_nat c 127 hc (by omega)
  rw [show ((127 : Nat) : Int) = 127 from rfl] at h
  rw [h, show (127 : Nat) = 2 ^ 7 - 1 from rfl, Nat.and_two_pow_sub_one_eq_mod]
  rfl
def zOf (b : Nat) (w : World) : Nat := match w.cell? ⟨b, 0, none⟩ with
  | some (.int _ z) => z.toNat
  | _ => 0
theorem zOf_at {b : Nat} {w : World} {k : IntKind} {z : Nat} (h : w.cell? ⟨b, 0, none⟩ = some (.int k z)) : zOf b w = z := by simp [zOf, h]

set_option maxRecDepth 100000 in
set_option maxHeartbeats 4000000 in
theorem groups_seq (N bx bq z : Nat) (w : World) (hz : z < 18446744073709551616) (hb : w.heap[bx]? = some (.cells #[.int .u64 z] 90 (0, 0))) (hbq : bx ≠ bq) :
    SeqW Fence.wide N Tryd.prog 82 #[.pointer (some ⟨bx, 0, none⟩)] grpE (KpO w.heap.size bq) (fun xs => xs = grpL z) (grpL z).length bx w := by
  intro l J W hW hJ hY h0
  have hltb := blk_lt hb
  have HB := Lib.hid (hW.keep hb (by simp))
  have HY := Lib.hid hY; have HJ := Lib.hid hJ; have HJ0 := Lib.hid h0
  clear hb hY hJ h0 hW
  refine callsIn_of_wp Tryd.func82 rfl trivial ?_ rfl
  simp only [Tryd.ntmps82, List.size_toArray, List.length_cons, List.length_nil, Nat.reduceAdd, Nat.reduceSub, Array.replicate_succ, Array.replicate_zero, List.push_toArray, List.append_toArray, List.nil_append, List.cons_append]
  gi_wp2
  gi_loopw [] (fun wr => ∃ (pre : List (Int × Bool)) (c : Nat), c ≤ z ∧ Hid (wr.heap[bx]? = some (.cells #[.int .u64 c] 90 (0, 0))) ∧ Hid (J pre wr) ∧ Hid (grpL z = pre ++ grpL c)) (fun wr => zOf bx wr)
  case atStart => exact ⟨[], z, Nat.le_refl _, HB, HJ0, Lib.hid rfl⟩
  case round =>
    obtain ⟨pre, c, hc, H1, HP, HG⟩ := hrel
    have x0 := cell_of_blk H1.out 0
    have y0 := free_of_blk H1.out 0
    by_cases hlt : c < 128
    · have HL : Hid (grpL z = pre ++ [((c : Int), true)]) := Lib.hid (by rw [HG.out, grpL_one hlt])
      obtain ⟨fn, tmps, assign, body, hy, hR⟩ := HY.out pre ((c : Int), true) wr HP.out (by rw [HL.out, List.length_append]; simp)
      dsimp only [grpE] at hy
      have HRR := Lib.hid hR
      have hb1 := and127 c (by omega)
      have hb2 : (c : Int) % 128 = c := by omega
      have hb3 : (c : Int) % 256 = c := by omega
      have hd : decide ((c : Int) < 128) = true := by simp; omega
      clear hR
      gi_wp2
      refine ⟨fun hh => (by cases hh), ?_⟩
      refine HRR.out.mono ?_
      rintro e W3 ⟨rfl, hJ3, hk3⟩
      have HJ3 := Lib.hid hJ3
      clear hy hb1 hb2 hb3 hd hk3 hJ3
      gi_wp2
      refine bodyPost_ret (results_none rfl _ _ _) rfl ?_
      exact ⟨⟨_, rfl⟩, _, HL.out.symm, HJ3.out⟩
    · have HL : Hid (grpL z = pre ++ ((c : Int) % 128, false) :: grpL (c / 128)) := Lib.hid (by rw [HG.out, grpL_more hlt])
      obtain ⟨fn, tmps, assign, body, hy, hR⟩ := HY.out pre ((c : Int) % 128, false) wr HP.out (by rw [HL.out, List.length_append]; simp)
      dsimp only [grpE] at hy
      have HRR := Lib.hid hR
      have hb1 := and127 c (by omega)
      have hb3 : (c : Int) % 128 % 256 = (c : Int) % 128 := by omega
      have hd : decide ((c : Int) < 128) = false := by simp; omega
      clear hR
      gi_wp2
      refine ⟨fun hh => (by cases hh), ?_⟩
      refine HRR.out.mono ?_
      rintro e W3 ⟨rfl, hJ3, hk3⟩
      have h3 := (hk3.block bx hltb hbq).trans H1.out
      have HS := Lib.hid (heap_setCell_same (i := 0) (.int .u64 ((c / 128 : Nat) : Int)) h3)
      have HJ4 := Lib.hid (HJ.out _ _ _ hJ3 (Fr.setCell (fp := [bx]) W3 (p := ⟨bx, 0, none⟩) (.int .u64 ((c / 128 : Nat) : Int)) (by simp)))
      have x3 := cell_of_blk h3 0
      have y3 := free_of_blk h3 0
      have hz0 := Lib.hid (zOf_at x0)
      clear hy hb1 hb3 hd hk3 hJ3 h3 x0 y0
      gi_wp2
      go_roundw
      case rel => exact ⟨_, c / 128, by omega, HS, HJ4, Lib.hid (by rw [HL.out, List.append_assoc]; rfl)⟩
      case measure =>
        rw [hz0.out]
        have := zOf_at (cell_of_blk HS.out 0)
        show zOf bx (W3.setCell ⟨bx, 0, none⟩ (.int .u64 ((c / 128 : Nat) : Int))) < c
        rw [this]
        omega

end Go.Proofs.YtklmefkbkphceaaDoor
