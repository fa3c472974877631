/-
  The walks of package disk, fifth part: Sync, New, Write.
-/
import Derived.Test.YtanjjgodlgmfcaaDkW4
namespace Go.Proofs.Ytanjjgodlgmfcaa
open Go.RowKit Go.Lib

set_option maxHeartbeats 400000 in
theorem sync_nil (w : World) : Calls Try.prog 23 #[.pointer none] w fun e w' => e = .returned (.int .i64 1) ∧ w = w' := by
  go_enter Try.func23, Try.ntmps23
  go_wp2_with (go_at_call 28; refine (check_nil _).mono ?_; rintro e w' ⟨rfl, rfl⟩)
  go_ret
  exact ⟨rfl, rfl⟩
set_option maxHeartbeats 400000 in
theorem sync_off (b : Nat) (w : World) (hc : w.cell? ⟨b, 0, none⟩ = some (.bool true)) : Calls Try.prog 23 #[.pointer (some ⟨b, 0, none⟩)] w fun e w' => e = .returned (.int .i64 91) ∧ w = w' := by
  go_enter Try.func23, Try.ntmps23
  go_wp2_with (go_at_call 28; refine (check_off _ _ hc).mono ?_; rintro e w' ⟨rfl, rfl⟩)
  go_ret
  exact ⟨rfl, rfl⟩

theorem DkIn.drew {tD tW tB : TypeId} {w : World} {b bd bv : Nat} {pv : Value} {D : Dk} (h : DkIn tD tW tB w b bd bv pv D) : DkIn tD tW tB w.drew b bd bv pv D := h.keep fun _ _ => rfl

set_option maxRecDepth 100000 in
set_option maxHeartbeats 800000 in
theorem sync_on (b bd bv : Nat) (pv : Value) (D : Dk) (w : World) (h : DkI w b bd bv pv D) (ho : D.off = false) :
    Calls Try.prog 23 #[.pointer (some ⟨b, 0, none⟩)] w fun e w' => e = .returned (.int .i64 0) ∧ ∃ pv', DkI w' b bd bv pv' D.sync ∧ pv'.ownBlock = pv.ownBlock ∧ Fr (b :: bd :: bv :: pv.ownBlock.toList) w w' := by
  have hc : w.cell? ⟨b, 0, none⟩ = some (.bool false) := by rw [cell_of_blk h.str]; simp [ho]
  have hc2 : w.cell? ⟨b, 2, none⟩ = some (.slice (some ⟨bd, 0, none⟩) D.dur.length D.dur.length) := by rw [cell_of_blk h.str]; rfl
  have hc3 : w.cell? ⟨b, 3, none⟩ = some (.slice (some ⟨bv, 0, none⟩) D.dur.length D.dur.length) := by rw [cell_of_blk h.str]; rfl
  have cS := Lib.hid (settle_dur b bd bv pv D w.drew h.drew)
  clear h ho
  go_enter Try.func23, Try.ntmps23
  go_wp2_with (go_at_call 28; refine (check_on _ _ hc).mono ?_; rintro e w' ⟨rfl, rfl⟩)
  go_region_law (go_simp; go_at_call 37; refine cS.out.mono ?_; rintro e w' ⟨rfl, pv', h1, h2, h3⟩)
  all_goals
    have H1 := Lib.hid h1; have H2 := Lib.hid h2; clear h1 h2
    go_wp2
    go_ret
    exact ⟨rfl, pv', H1.out, H2.out, (Fr.drew _ _).trans h3⟩

theorem madeCells_bytes (n : Nat) : madeCells #[Value.int .u8 0] n = (byteCells (List.replicate n 0)).toArray := by
  apply Array.ext'
  simp only [madeCells, Array.toList_map, Array.toList_range, byteCells]
  apply List.ext_getElem
  · simp
  · intro i h1 h2
    simp [Nat.mod_one]

/-- A new disk. -/
def Dk.new (n : Nat) : Dk := { off := false, left := 0, dur := List.replicate n 0, vis := List.replicate n 0, pend := [] }

set_option maxHeartbeats 400000 in
theorem new_bad (n : Int) (w : World) (hn : n < 1 ∨ 4194304 < n) : Calls Try.prog 13 #[.int .i64 n] w fun e w' => e = .returned (.tuple #[.pointer none, .int .i64 2]) ∧ w = w' := by
  rcases hn with hn | hn
  · go_enter Try.func13, Try.ntmps13
    go_wp2
    go_ret2
    exact ⟨rfl, rfl⟩
  · have h1 : decide (n < 1) = false := by simp; omega
    go_enter Try.func13, Try.ntmps13
    go_wp2
    go_ret2
    exact ⟨rfl, rfl⟩

def NewDisk (n : Nat) (w : World) (e : Ending) (w' : World) : Prop :=
  ∃ b fp, e = .returned (.tuple #[.pointer (some ⟨b, 0, none⟩), .int .i64 0]) ∧ DkA w' b fp (Dk.new n) ∧ Fr [] w w' ∧ ∀ k, k ∈ fp → w.heap.size ≤ k

theorem newDk_of (n b bd bv : Nat) (w : World) (h1 : 1 ≤ n) (h2 : n ≤ 4194304)
    (hs : w.heap[b]? = some (.cells #[.bool false, .int .i64 0, .slice (some ⟨bd, 0, none⟩) n n, .slice (some ⟨bv, 0, none⟩) n n, .slice none 0 0] 65 (0, 0)))
    (hd : w.heap[bd]? = some (.cells (madeCells #[Value.int .u8 0] n) 5 (0, 0))) (hv : w.heap[bv]? = some (.cells (madeCells #[Value.int .u8 0] n) 5 (0, 0)))
    (n1 : b ≠ bd) (n2 : b ≠ bv) (n3 : bd ≠ bv) : DkI w b bd bv (.slice none 0 0) (Dk.new n) where
  ok := ⟨by simp [Dk.new], by simpa [Dk.new] using h1, by simpa [Dk.new] using h2, by simp [Dk.new], by simp [Dk.new]⟩
  str := by simpa [Dk.new] using hs
  dur := by rw [BytesAt, hd, madeCells_bytes]; rfl
  vis := by rw [BytesAt, hv, madeCells_bytes]; rfl
  pend := ⟨rfl, .inl ⟨rfl, rfl⟩⟩
  ne1 := n1
  ne2 := n2
  ne3 := n3
  nep := fun g hg => by cases hg

theorem alloc3 (w : World) (x y z : Obj) : (((w.alloc x).alloc y).alloc z).drew.heap[w.heap.size]? = some x ∧ (((w.alloc x).alloc y).alloc z).drew.heap[w.heap.size + 1]? = some y ∧ (((w.alloc x).alloc y).alloc z).drew.heap[w.heap.size + 1 + 1]? = some z := by
  have e1 : (w.alloc x).heap.size = w.heap.size + 1 := by simp
  have e2 : ((w.alloc x).alloc y).heap.size = w.heap.size + 1 + 1 := by simp
  have h0 := heap_alloc_new w x
  have h1 := heap_alloc_new (w.alloc x) y
  have h2 := heap_alloc_new ((w.alloc x).alloc y) z
  rw [e1] at h1
  rw [e2] at h2
  exact ⟨heap_alloc_old z (heap_alloc_old y h0), heap_alloc_old z h1, h2⟩

set_option maxRecDepth 100000 in
set_option maxHeartbeats 800000 in
theorem new_ok (n : Nat) (w : World) (h1 : 1 ≤ n) (h2 : n ≤ 4194304) : Calls Try.prog 13 #[.int .i64 n] w (NewDisk n w) := by
  have hmk := fun w => run_make_row' (P := Try.prog) 40 5 (.int .u8 0) 1 Try.underlying40 infoB rfl .i64 .i64 n (by omega) (by omega) w
  have hd : decide ((n : Int) < 1) = false := by simp; omega
  have hd1 : decide ((4194304 : Int) < n) = false := by simp; omega
  go_enter Try.func13, Try.ntmps13
  go_wp2
  go_region
  all_goals
    go_wp2
    go_ret2
  · obtain ⟨x0, x1, x2⟩ := alloc3 w (.cells (madeCells #[Value.int .u8 0] n) 5) (.cells (madeCells #[Value.int .u8 0] n) 5) (.cells #[.bool false, .int .i64 0, .slice (some ⟨w.heap.size, 0, none⟩) n n, .slice (some ⟨w.heap.size + 1, 0, none⟩) n n, .slice none 0 0] 65)
    exact ⟨_, _, rfl, ⟨_, _, _, newDk_of n _ _ _ _ h1 h2 x2 x0 x1 (by omega) (by omega) (by omega), rfl⟩, (((Fr.alloc _ _ _).trans (Fr.alloc _ _ _)).trans (Fr.alloc _ _ _)).trans (Fr.drew _ _), by simp [Value.ownBlock]; omega⟩
  · obtain ⟨x0, x1, x2⟩ := alloc3 w (.cells (madeCells #[Value.int .u8 0] n) 5) (.cells (madeCells #[Value.int .u8 0] n) 5) (.cells #[.bool false, .int .i64 0, .slice (some ⟨w.heap.size + 1, 0, none⟩) n n, .slice (some ⟨w.heap.size, 0, none⟩) n n, .slice none 0 0] 65)
    exact ⟨_, _, rfl, ⟨_, _, _, newDk_of n _ _ _ _ h1 h2 x2 x1 x0 (by omega) (by omega) (by omega), rfl⟩, (((Fr.alloc _ _ _).trans (Fr.alloc _ _ _)).trans (Fr.alloc _ _ _)).trans (Fr.drew _ _), by simp [Value.ownBlock]; omega⟩

end Go.Proofs.Ytanjjgodlgmfcaa
