/-
  The walks of package disk: what each function does to a disk in memory.
-/
import Derived.Test.YtanjjgodlgmfcaaRows
import Derived.Test.YtanjjgodlgmfcaaDkM
import Derived.Deep.QuietTactic
import Derived.BigQuiet
import Derived.Deep.RegionLaw
import Derived.Deep.RegionHeldLaw
namespace Go.Proofs.Ytanjjgodlgmfcaa
open Go.RowKit Go.Lib

theorem infoU8 : (Try.prog.info? 5).map (·.size) = some 1 := by kernel_rfl
theorem infoW : (Try.prog.info? 69).map (fun i => (i.zero, i.size, i.bytes)) = some (some (.agg #[.int .i64 0, .string ⟨#[]⟩]), 2, 24) := by kernel_rfl
theorem infoB : (Try.prog.info? 5).map (fun i => (i.zero, i.size, i.bytes)) = some (some (.int .u8 0), 1, 1) := by kernel_rfl

abbrev DkI (w : World) (b bd bv : Nat) (pv : Value) (D : Dk) : Prop := DkIn 65 69 5 w b bd bv pv D
abbrev DkA (w : World) (b : Nat) (fp : List Nat) (D : Dk) : Prop := DkAt 65 69 5 w b fp D

set_option maxHeartbeats 400000 in
theorem check_nil (w : World) : Calls Try.prog 28 #[.pointer none] w fun e w' => e = .returned (.int .i64 1) ∧ w = w' := by
  go_enter Try.func28, Try.ntmps28
  go_wp2
  go_ret
  exact ⟨rfl, rfl⟩

set_option maxHeartbeats 400000 in
theorem check_off (b : Nat) (w : World) (hc : w.cell? ⟨b, 0, none⟩ = some (.bool true)) :
    Calls Try.prog 28 #[.pointer (some ⟨b, 0, none⟩)] w fun e w' => e = .returned (.int .i64 91) ∧ w = w' := by
  go_enter Try.func28, Try.ntmps28
  go_wp2
  go_ret
  exact ⟨rfl, rfl⟩

set_option maxHeartbeats 400000 in
theorem check_on (b : Nat) (w : World) (hc : w.cell? ⟨b, 0, none⟩ = some (.bool false)) :
    Calls Try.prog 28 #[.pointer (some ⟨b, 0, none⟩)] w fun e w' => e = .returned (.int .i64 0) ∧ w = w' := by
  go_enter Try.func28, Try.ntmps28
  go_wp2
  go_ret
  exact ⟨rfl, rfl⟩

set_option maxHeartbeats 400000 in
theorem used_0 (b : Nat) (w : World) (hc : w.cell? ⟨b, 1, none⟩ = some (.int .i64 0)) :
    Calls Try.prog 36 #[.pointer (some ⟨b, 0, none⟩)] w fun e w' => e = .returned (.tuple #[]) ∧ w = w' := by
  go_enter Try.func36, Try.ntmps36
  go_wp2
  exact ret0 rfl rfl ⟨rfl, rfl⟩

set_option maxHeartbeats 400000 in
theorem used_1 (b : Nat) (n : Int) (o : Value) (w : World) (hn : 1 ≤ n) (hn2 : n ≤ 9223372036854775807) (ho : w.cell? ⟨b, 0, none⟩ = some o) (hc : w.cell? ⟨b, 1, none⟩ = some (.int .i64 n))
    (hf0 : w.frozen? ⟨b, 0, none⟩ = false) (hf1 : w.frozen? ⟨b, 1, none⟩ = false) :
    Calls Try.prog 36 #[.pointer (some ⟨b, 0, none⟩)] w fun e w' => e = .returned (.tuple #[]) ∧ (w.setCell ⟨b, 1, none⟩ (.int .i64 (n - 1))).setCell ⟨b, 0, none⟩ (.bool (n - 1 == 0)) = w' := by
  have h0 : (n == 0) = false := by simp; omega
  go_enter Try.func36, Try.ntmps36
  go_wp2
  go_end0
  exact ⟨rfl, rfl⟩

theorem used_dk (b bd bv : Nat) (pv : Value) (D : Dk) (w : World) (h : DkI w b bd bv pv D) :
    Calls Try.prog 36 #[.pointer (some ⟨b, 0, none⟩)] w fun e w' => e = .returned (.tuple #[]) ∧ DkI w' b bd bv pv D.use ∧ Fr [b] w w' := by
  by_cases h0 : D.left = 0
  · have hu : D.use = D := by simp [Dk.use, h0]
    rw [hu]
    refine (used_0 b w (by rw [cell_of_blk h.str]; simp [h0])).mono ?_
    rintro e w' ⟨rfl, rfl⟩
    exact ⟨rfl, h, Fr.refl _ _⟩
  · have hl := h.ok.left
    refine (used_1 b D.left (.bool D.off) w (by omega) (by omega) (by rw [cell_of_blk h.str]; simp) (by rw [cell_of_blk h.str]; simp) (free_of_blk h.str _) (free_of_blk h.str _)).mono ?_
    rintro e w' ⟨rfl, rfl⟩
    refine ⟨rfl, ?_, (Fr.setCell _ _ (by simp)).trans (Fr.setCell _ _ (by simp))⟩
    have hk : ∀ k, k ≠ b → ((w.setCell ⟨b, 1, none⟩ (.int .i64 ((D.left : Int) - 1))).setCell ⟨b, 0, none⟩ (.bool ((D.left : Int) - 1 == 0))).heap[k]? = w.heap[k]? := fun k hk =>
      (Below.heap_setCell _ _ _ _ hk).trans (Below.heap_setCell _ _ _ _ hk)
    have hu : D.use = { D with left := D.left - 1, off := D.left - 1 == 0 } := by simp [Dk.use, h0]
    refine ⟨h.ok.use, ?_, ?_, ?_, ?_, h.ne1, h.ne2, h.ne3, h.nep⟩
    · rw [heap_setCell_same _ (heap_setCell_same _ h.str), hu]
      have e1 : ((D.left : Int) - 1 == 0) = (D.left - 1 == 0) := by rw [Bool.eq_iff_iff]; simp; omega
      have e2 : (D.left : Int) - 1 = ((D.left - 1 : Nat) : Int) := by omega
      rw [e1, e2]
      simp
    · rw [hu]; exact (hk bd h.ne1.symm).trans h.dur
    · rw [hu]; exact (hk bv h.ne2.symm).trans h.vis
    · rw [hu]; exact ownsRow_keep h.pend fun g hg => hk g (h.nep g hg).1

set_option maxRecDepth 100000 in
set_option maxHeartbeats 400000 in
theorem onto_lt (o : Nat) (s : ByteArray) (b n : Nat) (l : List UInt8) (w : World) (hlo : o < n) (hl : o + s.size ≤ n) (_hn : n ≤ 4194304) (hb : BytesAt w b 5 l) (hln : l.length = n) :
    Calls Try.prog 35 #[.agg #[.int .i64 o, .string s], .slice (some ⟨b, 0, none⟩) n n] w fun e w' => e = .returned (.tuple #[]) ∧ Fr [b] w w' ∧ BytesAt w' b 5 (paste l o s.data.toList) := by
  have hlt := blk_lt hb
  have hne : ¬ n = o := by omega
  have hle : o ≤ n := by omega
  have hln' := Lib.hid hln; clear hln
  have hb' : ∀ c : Array Value, BytesAt (w.alloc (.cells c 69)).drew b 5 l := fun c => heap_alloc_old _ hb
  have Hb := Lib.hid hb'; clear hb hb'
  go_enter Try.func35, Try.ntmps35
  go_wp2
  go_region_law (refine step_of_wp rfl (wp_copy_str (.tmp 7) (.tmp 9) 40 9 5 rfl Try.underlying40 infoU8 b o (n - o) (n - o) s l 5 rfl rfl (Hb.out _) (by omega) (by rw [hln'.out]; omega) ?_); intro w1 hf1 _ hb1)
  all_goals
    go_wp2
    go_end0
    exact ⟨rfl, ((Fr.alloc [b] w _).trans (Fr.drew _ _)).trans hf1, hb1⟩

set_option maxRecDepth 100000 in
set_option maxHeartbeats 400000 in
theorem onto_end (s : ByteArray) (b n : Nat) (l : List UInt8) (w : World) (hl : s.size = 0) (_hn : n ≤ 4194304) (hb : BytesAt w b 5 l) (hln : l.length = n) :
    Calls Try.prog 35 #[.agg #[.int .i64 n, .string s], .slice (some ⟨b, 0, none⟩) n n] w fun e w' => e = .returned (.tuple #[]) ∧ Fr [b] w w' ∧ BytesAt w' b 5 (paste l n s.data.toList) := by
  have hlt := blk_lt hb
  have hln' := Lib.hid hln; clear hln
  have Hl := Lib.hid hl; clear hl
  have hb' : ∀ c : Array Value, BytesAt (w.alloc (.cells c 69)).drew b 5 l := fun c => heap_alloc_old _ hb
  have Hb := Lib.hid hb'; clear hb hb'
  go_enter Try.func35, Try.ntmps35
  go_wp2
  go_region_law (refine step_of_wp rfl (wp_copy_str (.tmp 7) (.tmp 9) 40 9 5 rfl Try.underlying40 infoU8 b 0 0 0 s l 5 rfl rfl (Hb.out _) (by rw [Hl.out]; omega) (by rw [Hl.out]; omega) ?_); intro w1 hf1 _ hb1)
  all_goals
    go_wp2
    go_end0
    have hs : s.data.toList = [] := List.eq_nil_of_length_eq_zero (by simpa using Hl.out)
    rw [hs, paste_nil] at hb1
    rw [hs, paste_nil]
    exact ⟨rfl, ((Fr.alloc [b] w _).trans (Fr.drew _ _)).trans hf1, hb1⟩

theorem onto_any (o : Nat) (s : ByteArray) (b n : Nat) (l : List UInt8) (w : World) (hl : o + s.size ≤ n) (hn : n ≤ 4194304) (hb : BytesAt w b 5 l) (hln : l.length = n) :
    Calls Try.prog 35 #[.agg #[.int .i64 o, .string s], .slice (some ⟨b, 0, none⟩) n n] w fun e w' => e = .returned (.tuple #[]) ∧ Fr [b] w w' ∧ BytesAt w' b 5 (paste l o s.data.toList) := by
  rcases Nat.lt_or_ge o n with h | h
  · exact onto_lt o s b n l w h hl hn hb hln
  · obtain rfl : o = n := by omega
    exact onto_end s b o l w (by omega) hn hb hln

end Go.Proofs.Ytanjjgodlgmfcaa
