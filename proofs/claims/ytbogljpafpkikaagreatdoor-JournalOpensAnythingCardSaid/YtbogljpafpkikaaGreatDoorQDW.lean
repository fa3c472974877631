/-
  The walks of package disk: what each function does to a disk in memory.
-/
import Derived.Test.YtbogljpafpkikaaGreatDoorRows
import Derived.Test.YtbogljpafpkikaaGreatDoorQBa
import Derived.Deep.QuietTactic
import Derived.BigQuiet
import Derived.Deep.RegionLaw
import Derived.Deep.RegionHeldLaw
namespace Go.Proofs.YtbogljpafpkikaaGreatDoor
open Go.RowKit Go.Lib

theorem infoU8 : (Tryz.prog.info? 5).map (·.size) = some 1 := by kernel_rfl
theorem infoW : (Tryz.prog.info? 89).map (fun i => (i.zero, i.size, i.bytes)) = some (some (.agg #[.int .i64 0, .string ⟨#[]⟩]), 2, 24) := by kernel_rfl
theorem infoB : (Tryz.prog.info? 5).map (fun i => (i.zero, i.size, i.bytes)) = some (some (.int .u8 0), 1, 1) := by kernel_rfl

abbrev DkI (w : World) (b bd bv : Nat) (pv : Value) (D : Dk) : Prop := DkIn 94 89 5 w b bd bv pv D
abbrev DkA (w : World) (b : Nat) (fp : List Nat) (D : Dk) : Prop := DkAt 94 89 5 w b fp D

set_option maxHeartbeats 400000 in
theorem check_nil (w : World) : Calls Tryz.prog 42 #[.pointer none] w fun e w' => e = .returned (.int .i64 1) ∧ w = w' := by
  go_enter Tryz.func42, Tryz.ntmps42
  go_wp2
  go_ret
  exact ⟨rfl, rfl⟩

set_option maxHeartbeats 400000 in
theorem check_off (b : Nat) (w : World) (hc : w.cell? ⟨b, 0, none⟩ = some (.bool true)) :
    Calls Tryz.prog 42 #[.pointer (some ⟨b, 0, none⟩)] w fun e w' => e = .returned (.int .i64 91) ∧ w = w' := by
  go_enter Tryz.func42, Tryz.ntmps42
  go_wp2
  go_ret
  exact ⟨rfl, rfl⟩

set_option maxHeartbeats 400000 in
theorem check_on (b : Nat) (w : World) (hc : w.cell? ⟨b, 0, none⟩ = some (.bool false)) :
    Calls Tryz.prog 42 #[.pointer (some ⟨b, 0, none⟩)] w fun e w' => e = .returned (.int .i64 0) ∧ w = w' := by
  go_enter Tryz.func42, Tryz.ntmps42
  go_wp2
  go_ret
  exact ⟨rfl, rfl⟩

set_option maxHeartbeats 400000 in
theorem used_0 (b : Nat) (w : World) (hc : w.cell? ⟨b, 1, none⟩ = some (.int .i64 0)) :
    Calls Tryz.prog 45 #[.pointer (some ⟨b, 0, none⟩)] w fun e w' => e = .returned (.tuple #[]) ∧ w = w' := by
  go_enter Tryz.func45, Tryz.ntmps45
  go_wp2
  exact ret0 rfl rfl ⟨rfl, rfl⟩

set_option maxHeartbeats 400000 in
theorem used_1 (b : Nat) (n : Int) (o : Value) (w : World) (hn : 1 ≤ n) (hn2 : n ≤ 9223372036854775807) (ho : w.cell? ⟨b, 0, none⟩ = some o) (hc : w.cell? ⟨b, 1, none⟩ = some (.int .i64 n))
    (hf0 : w.frozen? ⟨b, 0, none⟩ = false) (hf1 : w.frozen? ⟨b, 1, none⟩ = false) :
    Calls Tryz.prog 45 #[.pointer (some ⟨b, 0, none⟩)] w fun e w' => e = .returned (.tuple #[]) ∧ (w.setCell ⟨b, 1, none⟩ (.int .i64 (n - 1))).setCell ⟨b, 0, none⟩ (.bool (n - 1 == 0)) = w' := by
  have h0 : (n == 0) = false := by simp; omega
  go_enter Tryz.func45, Tryz.ntmps45
  go_wp2
  go_end0
  exact ⟨rfl, rfl⟩

theorem used_dk (b bd bv : Nat) (pv : Value) (D : Dk) (w : World) (h : DkI w b bd bv pv D) :
    Calls Tryz.prog 45 #[.pointer (some ⟨b, 0, none⟩)] w fun e w' => e = .returned (.tuple #[]) ∧ DkI w' b bd bv pv D.use ∧ Fr [b] w w' := by
  by_cases h0 : D.left = 0
  · have hu : D.use = D := by simp [Dk.use, h0]
    rw [hu]
    refine (used_0 b w (by rw [cell_of_blk h.str]; simp [h0])).mono ?_
    rintro e w' ⟨rfl, rfl⟩
    exact ⟨rfl, h, Fr.refl _ _⟩
  · have hl := h.ok.left
    refine (used_1 b D.left (.bool D.off) w (by omega) (by omega) (by rw [cell_of_blk h.str]; simp) (by rw [cell_of_blk h.str]; simp) (free_of_blk h.str _) (free_of_blk h.str _)).mono ?_
    rintro e w' ⟨rfl, rfl⟩
    refine ⟨rfl, ?_, (Fr.setCell _ _ (by simp)).trans (Fr.setCell _ _ (by simp))⟩
    have hk : ∀ k, k ≠ b → ((w.setCell ⟨b, 1, none⟩ (.int .i64 ((D.left : Int) - 1))).setCell ⟨b, 0, none⟩ (.bool ((D.left : Int) - 1 == 0))).heap[k]? = w.heap[k]? := fun k hk =>
      (Below.heap_setCell _ _ _ _ hk).trans (Below.heap_setCell _ _ _ _ hk)
    have hu : D.use = { D with left := D.left - 1, off := D.left - 1 == 0 } := by simp [Dk.use, h0]
    refine ⟨h.ok.use, ?_, ?_, ?_, ?_, h.ne1, h.ne2, h.ne3, h.nep⟩
    · rw [heap_setCell_same _ (heap_setCell_same _ h.str), hu]
      have e1 : ((D.left : Int) - 1 == 0) = (D.left - 1 == 0) := by rw [Bool.eq_iff_iff]; simp; omega
      have e2 : (D.left : Int) - 1 = ((D.left - 1 : Nat) : Int) := by omega
      rw [e1, e2]
      simp
    · rw [hu]; exact (hk bd h.ne1.symm).trans h.dur
    · rw [hu]; exact (hk bv h.ne2.symm).trans h.vis
    · rw [hu]; exact ownsRow_keep h.pend fun g hg => hk g (h.nep g hg).1

set_option maxRecDepth 100000 in
set_option maxHeartbeats 400000 in
theorem onto_lt (o : Nat) (s : ByteArray) (b n : Nat) (l : List UInt8) (w : World) (hlo : o < n) (hl : o + s.size ≤ n) (_hn : n ≤ 4194304) (hb : BytesAt w b 5 l) (hln : l.length = n) :
    Calls Tryz.prog 44 #[.agg #[.int .i64 o, .string s], .slice (some ⟨b, 0, none⟩) n n] w fun e w' => e = .returned (.tuple #[]) ∧ Fr [b] w w' ∧ BytesAt w' b 5 (paste l o s.data.toList) := by
  have hlt := blk_lt hb
  have hne : ¬ n = o := by omega
  have hle : o ≤ n := by omega
  have hln' := Lib.hid hln; clear hln
  have hb' : ∀ c : Array Value, BytesAt (w.alloc (.cells c 89)).drew b 5 l := fun c => heap_alloc_old _ hb
  have Hb := Lib.hid hb'; clear hb hb'
  go_enter Tryz.func44, Tryz.ntmps44
  go_wp2
  go_region_law (refine step_of_wp rfl (wp_copy_str (.tmp 7) (.tmp 9) 39 9 5 rfl Tryz.underlying39 infoU8 b o (n - o) (n - o) s l 5 rfl rfl (Hb.out _) (by omega) (by rw [hln'.out]; omega) ?_); intro w1 hf1 _ hb1)
  all_goals
    go_wp2
    go_end0
    exact ⟨rfl, ((Fr.alloc [b] w _).trans (Fr.drew _ _)).trans hf1, hb1⟩

set_option maxRecDepth 100000 in
set_option maxHeartbeats 400000 in
theorem onto_end (s : ByteArray) (b n : Nat) (l : List UInt8) (w : World) (hl : s.size = 0) (_hn : n ≤ 4194304) (hb : BytesAt w b 5 l) (hln : l.length = n) :
    Calls Tryz.prog 44 #[.agg #[.int .i64 n, .string s], .slice (some ⟨b, 0, none⟩) n n] w fun e w' => e = .returned (.tuple #[]) ∧ Fr [b] w w' ∧ BytesAt w' b 5 (paste l n s.data.toList) := by
  have hlt := blk_lt hb
  have hln' := Lib.hid hln; clear hln
  have Hl := Lib.hid hl; clear hl
  have hb' : ∀ c : Array Value, BytesAt (w.alloc (.cells c 89)).drew b 5 l := fun c => heap_alloc_old _ hb
  have Hb := Lib.hid hb'; clear hb hb'
  go_enter Tryz.func44, Tryz.ntmps44
  go_wp2
  go_region_law (refine step_of_wp rfl (wp_copy_str (.tmp 7) (.tmp 9) 39 9 5 rfl Tryz.underlying39 infoU8 b 0 0 0 s l 5 rfl rfl (Hb.out _) (by rw [Hl.out]; omega) (by rw [Hl.out]; omega) ?_); intro w1 hf1 _ hb1)
  all_goals
    go_wp2
    go_end0
    have hs : s.data.toList = [] := List.eq_nil_of_length_eq_zero (by simpa using Hl.out)
    rw [hs, paste_nil] at hb1
    rw [hs, paste_nil]
    exact ⟨rfl, ((Fr.alloc [b] w _).trans (Fr.drew _ _)).trans hf1, hb1⟩

theorem onto_any (o : Nat) (s : ByteArray) (b n : Nat) (l : List UInt8) (w : World) (hl : o + s.size ≤ n) (hn : n ≤ 4194304) (hb : BytesAt w b 5 l) (hln : l.length = n) :
    Calls Tryz.prog 44 #[.agg #[.int .i64 o, .string s], .slice (some ⟨b, 0, none⟩) n n] w fun e w' => e = .returned (.tuple #[]) ∧ Fr [b] w w' ∧ BytesAt w' b 5 (paste l o s.data.toList) := by
  rcases Nat.lt_or_ge o n with h | h
  · exact onto_lt o s b n l w h hl hn hb hln
  · obtain rfl : o = n := by omega
    exact onto_end s b o l w (by omega) hn hb hln

end Go.Proofs.YtbogljpafpkikaaGreatDoor

/-
  The walks of package disk, second part: inside, Read, Size, Pending, Cut, settle, Sync.
-/
namespace Go.Proofs.YtbogljpafpkikaaGreatDoor
open Go.RowKit Go.Lib

set_option maxHeartbeats 1000000 in
theorem inside_c (b bd m : Nat) (off n : Int) (w : World) (hc : w.cell? ⟨b, 2, none⟩ = some (.slice (some ⟨bd, 0, none⟩) m m)) (hm : m ≤ 4194304) (ho : -9223372036854775808 ≤ off) (ho2 : off ≤ 9223372036854775807) (hn : -9223372036854775808 ≤ n) (hn2 : n ≤ 9223372036854775807) :
    Calls Tryz.prog 43 #[.pointer (some ⟨b, 0, none⟩), .int .i64 off, .int .i64 n] w fun e w' => e = .returned (.bool (insB m off n)) ∧ w = w' := by
  by_cases h1 : 0 ≤ off
  · by_cases h2 : 0 ≤ n
    · by_cases h3 : off ≤ m
      · by_cases h4 : n ≤ m - off
        · have hb : insB m off n = true := by simp [insB]; omega
          rw [hb]
          go_enter Tryz.func43, Tryz.ntmps43
          go_wp2
          go_ret
          exact ⟨rfl, rfl⟩
        · have hb : insB m off n = false := by simp [insB]; omega
          rw [hb]
          have h4' : (m : Int) - off < n := by omega
          go_enter Tryz.func43, Tryz.ntmps43
          go_wp2
          go_ret
          exact ⟨rfl, rfl⟩
      · have hb : insB m off n = false := by simp [insB]; omega
        rw [hb]
        have h3' : (m : Int) < off := by omega
        have h3d : decide (off ≤ (m : Int)) = false := by simp; omega
        go_enter Tryz.func43, Tryz.ntmps43
        go_wp2
        go_ret
        exact ⟨rfl, rfl⟩
    · have hb : insB m off n = false := by simp [insB]; omega
      rw [hb]
      have h2d : decide (0 ≤ n) = false := by simp; omega
      go_enter Tryz.func43, Tryz.ntmps43
      go_wp2
      go_ret
      exact ⟨rfl, rfl⟩
  · have hb : insB m off n = false := by simp [insB]; omega
    rw [hb]
    have h1d : decide (0 ≤ off) = false := by simp; omega
    go_enter Tryz.func43, Tryz.ntmps43
    go_wp2
    go_ret
    exact ⟨rfl, rfl⟩

set_option maxHeartbeats 400000 in
theorem size_nil (w : World) : Calls Tryz.prog 47 #[.pointer none] w fun e w' => e = .returned (.int .i64 0) ∧ w = w' := by
  go_enter Tryz.func47, Tryz.ntmps47
  go_wp2
  go_ret
  exact ⟨rfl, rfl⟩
set_option maxHeartbeats 400000 in
theorem size_c (b : Nat) (a : Option Addr) (m c : Nat) (w : World) (hc : w.cell? ⟨b, 2, none⟩ = some (.slice a m c)) : Calls Tryz.prog 47 #[.pointer (some ⟨b, 0, none⟩)] w fun e w' => e = .returned (.int .i64 m) ∧ w = w' := by
  go_enter Tryz.func47, Tryz.ntmps47
  go_wp2
  go_ret
  exact ⟨rfl, rfl⟩
set_option maxHeartbeats 400000 in
theorem pending_nil (w : World) : Calls Tryz.prog 28 #[.pointer none] w fun e w' => e = .returned (.int .i64 0) ∧ w = w' := by
  go_enter Tryz.func28, Tryz.ntmps28
  go_wp2
  go_ret
  exact ⟨rfl, rfl⟩
set_option maxHeartbeats 400000 in
theorem pending_c (b : Nat) (a : Option Addr) (m c : Nat) (w : World) (hc : w.cell? ⟨b, 4, none⟩ = some (.slice a m c)) : Calls Tryz.prog 28 #[.pointer (some ⟨b, 0, none⟩)] w fun e w' => e = .returned (.int .i64 m) ∧ w = w' := by
  go_enter Tryz.func28, Tryz.ntmps28
  go_wp2
  go_ret
  exact ⟨rfl, rfl⟩

/-- A value that owns a row is a slice of that length. -/
theorem ownsRow_slice {w : World} {base : Nat} {e : TypeId} {size : Nat} {v : Value} {n : Nat} {xs : List Value} (h : w.ownsRow base e size v n xs) : ∃ a c, v = .slice a n c := by
  rcases h.2 with ⟨rfl, rfl⟩ | ⟨g, cap, cur, rfl, _⟩
  · exact ⟨_, _, rfl⟩
  · exact ⟨_, _, rfl⟩

theorem size_dk (b : Nat) (fp : List Nat) (D : Dk) (w : World) (h : DkA w b fp D) : Calls Tryz.prog 47 #[.pointer (some ⟨b, 0, none⟩)] w fun e w' => e = .returned (.int .i64 D.dur.length) ∧ w = w' := by
  obtain ⟨bd, bv, pv, h, rfl⟩ := h
  exact size_c b _ _ _ w (by rw [cell_of_blk h.str]; rfl)
theorem pending_dk (b : Nat) (fp : List Nat) (D : Dk) (w : World) (h : DkA w b fp D) : Calls Tryz.prog 28 #[.pointer (some ⟨b, 0, none⟩)] w fun e w' => e = .returned (.int .i64 D.pend.length) ∧ w = w' := by
  obtain ⟨bd, bv, pv, h, rfl⟩ := h
  obtain ⟨a, c, rfl⟩ := ownsRow_slice h.pend
  exact pending_c b _ _ _ w (by rw [cell_of_blk h.str]; rfl)

/-! ### Cut -/
set_option maxHeartbeats 400000 in
theorem cut_nil (n : Int) (w : World) : Calls Tryz.prog 56 #[.pointer none, .int .i64 n] w fun e w' => e = .returned (.int .i64 1) ∧ w = w' := by
  go_enter Tryz.func56, Tryz.ntmps56
  go_wp2_with (go_at_call 42; refine (check_nil _).mono ?_; rintro e w' ⟨rfl, rfl⟩)
  go_ret
  exact ⟨rfl, rfl⟩
set_option maxHeartbeats 400000 in
theorem cut_off (b : Nat) (n : Int) (w : World) (hc : w.cell? ⟨b, 0, none⟩ = some (.bool true)) : Calls Tryz.prog 56 #[.pointer (some ⟨b, 0, none⟩), .int .i64 n] w fun e w' => e = .returned (.int .i64 91) ∧ w = w' := by
  go_enter Tryz.func56, Tryz.ntmps56
  go_wp2_with (go_at_call 42; refine (check_off _ _ hc).mono ?_; rintro e w' ⟨rfl, rfl⟩)
  go_ret
  exact ⟨rfl, rfl⟩
set_option maxHeartbeats 400000 in
theorem cut_neg (b : Nat) (n : Int) (w : World) (hc : w.cell? ⟨b, 0, none⟩ = some (.bool false)) (hn : n < 0) : Calls Tryz.prog 56 #[.pointer (some ⟨b, 0, none⟩), .int .i64 n] w fun e w' => e = .returned (.int .i64 2) ∧ w = w' := by
  go_enter Tryz.func56, Tryz.ntmps56
  go_wp2_with (go_at_call 42; refine (check_on _ _ hc).mono ?_; rintro e w' ⟨rfl, rfl⟩)
  go_ret
  exact ⟨rfl, rfl⟩
set_option maxHeartbeats 400000 in
theorem cut_pos (b : Nat) (n : Int) (x : Value) (w : World) (hc : w.cell? ⟨b, 0, none⟩ = some (.bool false)) (hc1 : w.cell? ⟨b, 1, none⟩ = some x) (hf0 : w.frozen? ⟨b, 0, none⟩ = false) (hf1 : w.frozen? ⟨b, 1, none⟩ = false) (hn : 0 ≤ n) :
    Calls Tryz.prog 56 #[.pointer (some ⟨b, 0, none⟩), .int .i64 n] w fun e w' => e = .returned (.int .i64 0) ∧ (w.setCell ⟨b, 0, none⟩ (.bool (n == 0))).setCell ⟨b, 1, none⟩ (.int .i64 n) = w' := by
  go_enter Tryz.func56, Tryz.ntmps56
  go_wp2_with (go_at_call 42; refine (check_on _ _ hc).mono ?_; rintro e w' ⟨rfl, rfl⟩)
  go_ret
  exact ⟨rfl, rfl⟩

/-- The first two cells of a disk's struct set anew. -/
theorem DkIn.power {w : World} {b bd bv : Nat} {pv : Value} {D : Dk} (h : DkI w b bd bv pv D) (o : Bool) (n : Nat) (hn : n ≤ 9223372036854775807) {w' : World}
    (hs : w'.heap[b]? = some (.cells #[.bool o, .int .i64 n, .slice (some ⟨bd, 0, none⟩) D.dur.length D.dur.length, .slice (some ⟨bv, 0, none⟩) D.dur.length D.dur.length, pv] 94 (0, 0)))
    (hk : ∀ k, k < w.heap.size → k ≠ b → w'.heap[k]? = w.heap[k]?) : DkI w' b bd bv pv { D with off := o, left := n } where
  ok := ⟨h.ok.len, h.ok.pos, h.ok.max, hn, h.ok.pend⟩
  str := hs
  dur := (hk bd (blk_lt h.dur) h.ne1.symm).trans h.dur
  vis := (hk bv (blk_lt h.vis) h.ne2.symm).trans h.vis
  pend := ownsRow_keep h.pend fun g hg => hk g (ownsRow_lt h.pend hg) (h.nep g hg).1
  ne1 := h.ne1
  ne2 := h.ne2
  ne3 := h.ne3
  nep := h.nep

/-- The error that Cut returns. -/
def Dk.cutE (D : Dk) (n : Int) : Int := if D.off then 91 else if n < 0 then 2 else 0
def Dk.cutD (D : Dk) (n : Int) : Dk := if D.off then D else if n < 0 then D else D.cut n.toNat

theorem cut_dk (b : Nat) (fp : List Nat) (D : Dk) (n : Int) (w : World) (h : DkA w b fp D) (hn : n ≤ 9223372036854775807) :
    Calls Tryz.prog 56 #[.pointer (some ⟨b, 0, none⟩), .int .i64 n] w fun e w' => e = .returned (.int .i64 (D.cutE n)) ∧ DkA w' b fp (D.cutD n) ∧ Fr fp w w' := by
  obtain ⟨bd, bv, pv, h, rfl⟩ := h
  by_cases ho : D.off = true
  · refine (cut_off b n w (by rw [cell_of_blk h.str]; simp [ho])).mono ?_
    rintro e w' ⟨rfl, rfl⟩
    rw [show D.cutE n = 91 by simp [Dk.cutE, ho], show D.cutD n = D by simp [Dk.cutD, ho]]
    exact ⟨rfl, ⟨_, _, _, h, rfl⟩, Fr.refl _ _⟩
  · have ho' : D.off = false := by simpa using ho
    by_cases hn0 : n < 0
    · refine (cut_neg b n w (by rw [cell_of_blk h.str]; simp [ho']) hn0).mono ?_
      rintro e w' ⟨rfl, rfl⟩
      rw [show D.cutE n = 2 by simp [Dk.cutE, ho', hn0], show D.cutD n = D by simp [Dk.cutD, hn0]]
      exact ⟨rfl, ⟨_, _, _, h, rfl⟩, Fr.refl _ _⟩
    · obtain ⟨k, rfl⟩ := Int.eq_ofNat_of_zero_le (Int.not_lt.1 hn0)
      refine (cut_pos b k (.int .i64 D.left) w (by rw [cell_of_blk h.str]; simp [ho']) (by rw [cell_of_blk h.str]; rfl) (free_of_blk h.str _) (free_of_blk h.str _) (by omega)).mono ?_
      rintro e w' ⟨rfl, rfl⟩
      have e0 : D.cutE (k : Int) = 0 := by simp [Dk.cutE, ho']
      have e1 : D.cutD (k : Int) = { D with off := k == 0, left := k } := by simp only [Dk.cutD, ho', hn0, if_false, Dk.cut, Int.toNat_natCast]; rfl
      rw [e0, e1]
      refine ⟨rfl, ⟨bd, bv, pv, h.power _ k (by omega) ?_ ?_, rfl⟩, (Fr.setCell _ _ (by simp)).trans (Fr.setCell _ _ (by simp))⟩
      · rw [heap_setCell_same _ (heap_setCell_same _ h.str)]
        have e2 : (((k : Nat) : Int) == 0) = (k == 0) := by rw [Bool.eq_iff_iff]; simp
        rw [e2]; simp
      · intro j _ hj
        exact (Below.heap_setCell _ _ _ _ hj).trans (Below.heap_setCell _ _ _ _ hj)

end Go.Proofs.YtbogljpafpkikaaGreatDoor

/-
  The walks of package disk, third part: Read, settle, Sync.
-/
namespace Go.Proofs.YtbogljpafpkikaaGreatDoor
open Go.RowKit Go.Lib

set_option maxHeartbeats 400000 in
theorem read_nil (off n : Int) (w : World) : Calls Tryz.prog 48 #[.pointer none, .int .i64 off, .int .i64 n] w fun e w' => e = .returned (.tuple #[.string ⟨#[]⟩, .int .i64 1]) ∧ w = w' := by
  go_enter Tryz.func48, Tryz.ntmps48
  go_wp2_with (go_at_call 42; refine (check_nil _).mono ?_; rintro e w' ⟨rfl, rfl⟩)
  go_ret2
  exact ⟨rfl, rfl⟩
set_option maxHeartbeats 400000 in
theorem read_off (b : Nat) (off n : Int) (w : World) (hc : w.cell? ⟨b, 0, none⟩ = some (.bool true)) : Calls Tryz.prog 48 #[.pointer (some ⟨b, 0, none⟩), .int .i64 off, .int .i64 n] w fun e w' => e = .returned (.tuple #[.string ⟨#[]⟩, .int .i64 91]) ∧ w = w' := by
  go_enter Tryz.func48, Tryz.ntmps48
  go_wp2_with (go_at_call 42; refine (check_off _ _ hc).mono ?_; rintro e w' ⟨rfl, rfl⟩)
  go_ret2
  exact ⟨rfl, rfl⟩
set_option maxHeartbeats 400000 in
theorem read_out (b bd m : Nat) (off n : Int) (w : World) (hc : w.cell? ⟨b, 0, none⟩ = some (.bool false)) (hc2 : w.cell? ⟨b, 2, none⟩ = some (.slice (some ⟨bd, 0, none⟩) m m)) (hm : m ≤ 4194304) (ho : -9223372036854775808 ≤ off) (ho2 : off ≤ 9223372036854775807) (hn : -9223372036854775808 ≤ n) (hn2 : n ≤ 9223372036854775807) (hi : insB m off n = false) :
    Calls Tryz.prog 48 #[.pointer (some ⟨b, 0, none⟩), .int .i64 off, .int .i64 n] w fun e w' => e = .returned (.tuple #[.string ⟨#[]⟩, .int .i64 90]) ∧ w = w' := by
  have cI := inside_c b bd m off n w hc2 hm ho ho2 hn hn2
  rw [hi] at cI
  have CI := Lib.hid cI; clear cI
  have Hi := Lib.hid hi; clear hi
  go_enter Tryz.func48, Tryz.ntmps48
  go_wp2_with (first | (go_at_call 42; refine (check_on _ _ hc).mono ?_; rintro e w' ⟨rfl, rfl⟩) | (go_at_call 43; refine CI.out.mono ?_; rintro e w' ⟨rfl, rfl⟩))
  go_ret2
  exact ⟨rfl, rfl⟩
set_option maxRecDepth 100000 in
set_option maxHeartbeats 800000 in
theorem read_in (b bd bv m off n : Nat) (l : List UInt8) (w : World) (hc : w.cell? ⟨b, 0, none⟩ = some (.bool false)) (hc2 : w.cell? ⟨b, 2, none⟩ = some (.slice (some ⟨bd, 0, none⟩) m m)) (hc3 : w.cell? ⟨b, 3, none⟩ = some (.slice (some ⟨bv, 0, none⟩) m m)) (hm : m ≤ 4194304) (hi : off + n ≤ m) (hb : BytesAt w bv 5 l) (hl : l.length = m) :
    Calls Tryz.prog 48 #[.pointer (some ⟨b, 0, none⟩), .int .i64 off, .int .i64 n] w fun e w' => e = .returned (.tuple #[.string ⟨((l.drop off).take n).toArray⟩, .int .i64 0]) ∧ w = w' := by
  have cI := inside_c b bd m off n w hc2 hm (by omega) (by omega) (by omega) (by omega)
  rw [show insB m off n = true by simp [insB]; omega] at cI
  have CI := Lib.hid cI; clear cI
  have Hb := Lib.hid hb; clear hb
  have Hl := Lib.hid hl; clear hl
  have ho : off ≤ m := by omega
  have hnn : n ≤ m - off := by omega
  by_cases he : m = off
  · subst he
    have h0 : n = 0 := by omega
    subst h0
    go_enter Tryz.func48, Tryz.ntmps48
    go_wp2_with (first | (go_at_call 42; refine (check_on _ _ hc).mono ?_; rintro e w' ⟨rfl, rfl⟩) | (go_at_call 43; refine CI.out.mono ?_; rintro e w' ⟨rfl, rfl⟩) | ((with_reducible refine wpList_of_wp (o := ⟨some 27, _, _, _, _, _⟩) rfl (fun K hK => ?_)); refine (wp_bytes_str (.tmp 26) 39 9 5 rfl Tryz.underlying39 Tryz.underlying5 Tryz.underlying9 bv 0 0 0 l 5 rfl Hb.out (by omega) (hK _ _ ?_))))
    go_ret2
    exact ⟨by simp, rfl⟩
  · go_enter Tryz.func48, Tryz.ntmps48
    go_wp2_with (first | (go_at_call 42; refine (check_on _ _ hc).mono ?_; rintro e w' ⟨rfl, rfl⟩) | (go_at_call 43; refine CI.out.mono ?_; rintro e w' ⟨rfl, rfl⟩) | ((with_reducible refine wpList_of_wp (o := ⟨some 27, _, _, _, _, _⟩) rfl (fun K hK => ?_)); refine (wp_bytes_str (.tmp 26) 39 9 5 rfl Tryz.underlying39 Tryz.underlying5 Tryz.underlying9 bv off n (m - off) l 5 rfl Hb.out (by rw [Hl.out]; omega) (hK _ _ ?_))))
    go_ret2
    exact ⟨rfl, rfl⟩

/-- What Read returns. -/
def Dk.readE (D : Dk) (off n : Int) : Int := if D.off then 91 else if insB D.dur.length off n then 0 else 90
def Dk.readS (D : Dk) (off n : Int) : List UInt8 := if D.off then [] else if insB D.dur.length off n then (D.vis.drop off.toNat).take n.toNat else []

theorem read_dk (b : Nat) (fp : List Nat) (D : Dk) (off n : Int) (w : World) (h : DkA w b fp D) (ho : -9223372036854775808 ≤ off) (ho2 : off ≤ 9223372036854775807) (hn : -9223372036854775808 ≤ n) (hn2 : n ≤ 9223372036854775807) :
    Calls Tryz.prog 48 #[.pointer (some ⟨b, 0, none⟩), .int .i64 off, .int .i64 n] w fun e w' => e = .returned (.tuple #[.string ⟨(D.readS off n).toArray⟩, .int .i64 (D.readE off n)]) ∧ w = w' := by
  obtain ⟨bd, bv, pv, h, rfl⟩ := h
  have hm := h.ok.max
  cases hoff : D.off with
  | true =>
    rw [show D.readS off n = [] by simp [Dk.readS, hoff], show D.readE off n = 91 by simp [Dk.readE, hoff]]
    exact read_off b off n w (by rw [cell_of_blk h.str]; simp [hoff])
  | false =>
    cases hi : insB D.dur.length off n with
    | false =>
      rw [show D.readS off n = [] by simp [Dk.readS, hi], show D.readE off n = 90 by simp [Dk.readE, hoff, hi]]
      exact read_out b bd _ off n w (by rw [cell_of_blk h.str]; simp [hoff]) (by rw [cell_of_blk h.str]; rfl) hm ho ho2 hn hn2 hi
    | true =>
      rw [show D.readS off n = (D.vis.drop off.toNat).take n.toNat by simp [Dk.readS, hoff, hi], show D.readE off n = 0 by simp [Dk.readE, hoff, hi]]
      simp only [insB, decide_eq_true_eq] at hi
      obtain ⟨o, rfl⟩ := Int.eq_ofNat_of_zero_le hi.1
      obtain ⟨k, rfl⟩ := Int.eq_ofNat_of_zero_le hi.2.1
      exact read_in b bd bv _ o k D.vis w (by rw [cell_of_blk h.str]; simp [hoff]) (by rw [cell_of_blk h.str]; rfl) (by rw [cell_of_blk h.str]; rfl) hm (by omega) h.vis h.ok.len

end Go.Proofs.YtbogljpafpkikaaGreatDoor

/-
  The walks of package disk, fourth part: settle, Sync.
-/
namespace Go.Proofs.YtbogljpafpkikaaGreatDoor
open Go.RowKit Go.Lib

theorem zeroW (w : World) : (zeroValue 89).run Tryz.prog w = .ok (.agg #[.int .i64 0, .string ⟨#[]⟩]) w := by kernel_rfl

/-- What settle leaves: the bytes copied, no pending writes. -/
def Settled (b gd : Nat) (ls : List UInt8) (pv : Value) (st : Array Value) (w : World) (e : Ending) (w' : World) : Prop :=
  e = .returned (.tuple #[]) ∧ ∃ pv', Fr (b :: gd :: pv.ownBlock.toList) w w' ∧ BytesAt w' gd 5 ls ∧ w'.ownsRow 0 89 2 pv' 0 [] ∧ pv'.ownBlock = pv.ownBlock ∧
    w'.heap[b]? = some (.cells (st.setIfInBounds 4 pv') 94 (0, 0))

set_option maxRecDepth 100000 in
set_option maxHeartbeats 800000 in
theorem settle_nil (b gs gd n : Nat) (ls ld : List UInt8) (st : Array Value) (w : World) (hst : w.heap[b]? = some (.cells st 94 (0, 0))) (h4 : st[4]? = some (.slice none 0 0)) (hs : BytesAt w gs 5 ls) (hd : BytesAt w gd 5 ld) (hls : ls.length = n) (hld : ld.length = n) (hne : b ≠ gd) :
    Calls Tryz.prog 65 #[.pointer (some ⟨b, 0, none⟩), .slice (some ⟨gs, 0, none⟩) n n, .slice (some ⟨gd, 0, none⟩) n n] w (Settled b gd ls (.slice none 0 0) st w) := by
  have Hs := Lib.hid hs; have Hd := Lib.hid hd; have Hls := Lib.hid hls; have Hld := Lib.hid hld
  have Hst := Lib.hid hst; have H4 := Lib.hid h4
  clear hs hd hls hld hst h4
  go_enter Tryz.func65, Tryz.ntmps65
  go_wp2_with (first | ((with_reducible refine wpList_of_wp (o := ⟨some 8, _, _, _, _, _⟩) rfl (fun K hK => ?_)); refine (wp_copy_bytes (.tmp 6) (.tmp 7) 39 39 5 rfl Tryz.underlying39 infoU8 gd gs n n n ld ls 5 rfl rfl Hd.out Hs.out Hld.out Hls.out (fun w1 f1 s1 b1 => hK _ _ ?_)); clear hK K s1; have K1 := Lib.hid (f1.keep Hst.out (by simpa using hne)); have c4 : w1.cell? ⟨b, 4, none⟩ = some (.slice none 0 0) := (cell_of_blk K1.out 4).trans H4.out; have z4 := free_of_blk K1.out 4) | ((with_reducible refine wpList_of_wp (o := ⟨none, .call _, _, _, _, _⟩) rfl (fun K hK => ?_)); refine wp_clear_nil (.tmp 12) 90 89 rfl Tryz.underlying90 rfl (hK _ _ ?_)))
  go_end0
  refine ⟨rfl, .slice none 0 0, ?_, ?_, ⟨rfl, .inl ⟨rfl, rfl⟩⟩, rfl, heap_setCell_same _ K1.out⟩
  · exact (f1.mono (by simp)).trans (Fr.setCell _ _ (by simp))
  · exact heap_setCell_other _ b1 hne.symm

set_option maxRecDepth 100000 in
set_option maxHeartbeats 800000 in
theorem settle_some (b gs gd n g k cap : Nat) (cur : Array Value) (ls ld : List UInt8) (st : Array Value) (w : World) (hst : w.heap[b]? = some (.cells st 94 (0, 0))) (h4 : st[4]? = some (.slice (some ⟨g, 0, none⟩) k cap)) (hs : BytesAt w gs 5 ls) (hd : BytesAt w gd 5 ld) (hls : ls.length = n) (hld : ld.length = n) (hne : b ≠ gd)
    (hg : w.heap[g]? = some (.cells cur 89 (0, 0))) (hk : k ≤ cap) (hcap : cap ≤ maxLen) (hcur : cur.size = cap * 2) (hg1 : g ≠ b) (hg2 : g ≠ gd) :
    Calls Tryz.prog 65 #[.pointer (some ⟨b, 0, none⟩), .slice (some ⟨gs, 0, none⟩) n n, .slice (some ⟨gd, 0, none⟩) n n] w (Settled b gd ls (.slice (some ⟨g, 0, none⟩) k cap) st w) := by
  have Hs := Lib.hid hs; have Hd := Lib.hid hd; have Hls := Lib.hid hls; have Hld := Lib.hid hld
  have Hst := Lib.hid hst; have H4 := Lib.hid h4; have Hg := Lib.hid hg; have Hcur := Lib.hid hcur; have Hcap := Lib.hid hcap
  clear hs hd hls hld hst h4 hg hcur hcap
  go_enter Tryz.func65, Tryz.ntmps65
  go_wp2_with (first | ((with_reducible refine wpList_of_wp (o := ⟨some 8, _, _, _, _, _⟩) rfl (fun K hK => ?_)); refine (wp_copy_bytes (.tmp 6) (.tmp 7) 39 39 5 rfl Tryz.underlying39 infoU8 gd gs n n n ld ls 5 rfl rfl Hd.out Hs.out Hld.out Hls.out (fun w1 f1 s1 b1 => hK _ _ ?_)); clear hK K s1; have K1 := Lib.hid (f1.keep Hst.out (by simpa using hne)); have KG := Lib.hid (f1.keep Hg.out (by simpa using hg2)); have c4 : w1.cell? ⟨b, 4, none⟩ = some (.slice (some ⟨g, 0, none⟩) k cap) := (cell_of_blk K1.out 4).trans H4.out) | ((with_reducible refine wpList_of_wp (o := ⟨none, .call _, _, _, _, _⟩) rfl (fun K hK => ?_)); refine (wp_clear_blk (.tmp 12) 90 89 _ rfl Tryz.underlying90 zeroW (by simp [Value.cells, Value.oneCell']) g k cap cur 89 rfl KG.out (by rw [Hcur.out]; simp [Value.cells]; omega) (by simp [Value.cells]) (fun cs hcs => hK _ _ ?_)); clear hK K; have K2 := Lib.hid ((setRow_other w1 g b cs (Ne.symm hg1)).trans K1.out); have c4' : (w1.setRow g cs).cell? ⟨b, 4, none⟩ = some (.slice (some ⟨g, 0, none⟩) k cap) := (cell_of_blk K2.out 4).trans H4.out; have z4 := free_of_blk K2.out 4; clear c4; have Hcs := Lib.hid hcs; clear hcs))
  go_end0
  refine ⟨rfl, .slice (some ⟨g, 0, none⟩) 0 cap, ?_, ?_, ⟨rfl, .inr ⟨g, cap, cs, rfl, Nat.zero_le _, ?_, Nat.zero_le _, Hcap.out, by rw [Hcs.out, Hcur.out], by simp⟩⟩, rfl, heap_setCell_same _ K2.out⟩
  · exact ((f1.mono (by simp)).trans (Fr.setRow _ _ (by simp [Value.ownBlock]))).trans (Fr.setCell _ _ (by simp))
  · exact heap_setCell_other _ ((setRow_other _ _ _ _ (Ne.symm hg2)).trans b1) hne.symm
  · exact heap_setCell_other _ (setRow_heap _ _ _ _ _ _ KG.out) hg1

theorem settle_any (b gs gd n k : Nat) (pv : Value) (xs : List Value) (ls ld : List UInt8) (st : Array Value) (w : World) (hst : w.heap[b]? = some (.cells st 94 (0, 0))) (h4 : st[4]? = some pv) (hs : BytesAt w gs 5 ls) (hd : BytesAt w gd 5 ld) (hls : ls.length = n) (hld : ld.length = n) (hne : b ≠ gd)
    (hp : w.ownsRow 0 89 2 pv k xs) (hg : ∀ g, pv.ownBlock = some g → g ≠ b ∧ g ≠ gd) :
    Calls Tryz.prog 65 #[.pointer (some ⟨b, 0, none⟩), .slice (some ⟨gs, 0, none⟩) n n, .slice (some ⟨gd, 0, none⟩) n n] w (Settled b gd ls pv st w) := by
  rcases hp.2 with ⟨rfl, _⟩ | ⟨g, cap, cur, rfl, _, hh, h1, h2, h3, _⟩
  · exact settle_nil b gs gd n ls ld st w hst h4 hs hd hls hld hne
  · exact settle_some b gs gd n g k cap cur ls ld st w hst h4 hs hd hls hld hne hh h1 h2 h3 (hg g rfl).1 (hg g rfl).2

theorem settle_dur (b bd bv : Nat) (pv : Value) (D : Dk) (w : World) (h : DkI w b bd bv pv D) :
    Calls Tryz.prog 65 #[.pointer (some ⟨b, 0, none⟩), .slice (some ⟨bv, 0, none⟩) D.dur.length D.dur.length, .slice (some ⟨bd, 0, none⟩) D.dur.length D.dur.length] w fun e w' =>
      e = .returned (.tuple #[]) ∧ ∃ pv', DkI w' b bd bv pv' D.sync ∧ pv'.ownBlock = pv.ownBlock ∧ Fr (b :: bd :: bv :: pv.ownBlock.toList) w w' := by
  refine (settle_any b bv bd _ _ pv _ D.vis D.dur _ w h.str rfl h.vis h.dur h.ok.len rfl h.ne1 h.pend (fun g hg => ⟨(h.nep g hg).1, (h.nep g hg).2.1⟩)).mono ?_
  rintro e w' ⟨rfl, pv', hf, hb, hp, ho, hs⟩
  refine ⟨rfl, pv', ⟨⟨rfl, ?_, ?_, h.ok.left, ?_⟩, ?_, hb, ?_, hp, h.ne1, h.ne2, h.ne3, by rw [ho]; exact h.nep⟩, ho, hf.mono (fun i hi => by simp only [List.mem_cons] at hi ⊢; rcases hi with h | h | h <;> simp [h])⟩
  · simpa [Dk.sync, h.ok.len] using h.ok.pos
  · simpa [Dk.sync, h.ok.len] using h.ok.max
  · simp [Dk.sync]
  · rw [hs]; simp [Dk.sync, h.ok.len]
  · exact hf.keep h.vis (by
      simp only [List.mem_cons, Option.mem_toList, not_or]
      exact ⟨h.ne2.symm, h.ne3.symm, fun hg => (h.nep bv hg).2.2 rfl⟩)

theorem settle_vis (b bd bv : Nat) (pv : Value) (D : Dk) (w : World) (h : DkI w b bd bv pv D) :
    Calls Tryz.prog 65 #[.pointer (some ⟨b, 0, none⟩), .slice (some ⟨bd, 0, none⟩) D.dur.length D.dur.length, .slice (some ⟨bv, 0, none⟩) D.dur.length D.dur.length] w fun e w' =>
      e = .returned (.tuple #[]) ∧ ∃ pv', DkI w' b bd bv pv' { D with vis := D.dur, pend := [] } ∧ pv'.ownBlock = pv.ownBlock ∧ Fr (b :: bd :: bv :: pv.ownBlock.toList) w w' := by
  refine (settle_any b bd bv _ _ pv _ D.dur D.vis _ w h.str rfl h.dur h.vis rfl h.ok.len h.ne2 h.pend (fun g hg => ⟨(h.nep g hg).1, (h.nep g hg).2.2⟩)).mono ?_
  rintro e w' ⟨rfl, pv', hf, hb, hp, ho, hs⟩
  refine ⟨rfl, pv', ⟨⟨rfl, h.ok.pos, h.ok.max, h.ok.left, by simp⟩, ?_, ?_, hb, hp, h.ne1, h.ne2, h.ne3, by rw [ho]; exact h.nep⟩, ho, hf.mono (fun i hi => by simp only [List.mem_cons] at hi ⊢; rcases hi with h | h | h <;> simp [h])⟩
  · rw [hs]; simp
  · exact hf.keep h.dur (by
      simp only [List.mem_cons, Option.mem_toList, not_or]
      exact ⟨h.ne1.symm, h.ne3, fun hg => (h.nep bd hg).2.1 rfl⟩)

end Go.Proofs.YtbogljpafpkikaaGreatDoor

/-
  The walks of package disk, fifth part: Sync, New, Write.
-/
namespace Go.Proofs.YtbogljpafpkikaaGreatDoor
open Go.RowKit Go.Lib

set_option maxHeartbeats 400000 in
theorem sync_nil (w : World) : Calls Tryz.prog 38 #[.pointer none] w fun e w' => e = .returned (.int .i64 1) ∧ w = w' := by
  go_enter Tryz.func38, Tryz.ntmps38
  go_wp2_with (go_at_call 42; refine (check_nil _).mono ?_; rintro e w' ⟨rfl, rfl⟩)
  go_ret
  exact ⟨rfl, rfl⟩
set_option maxHeartbeats 400000 in
theorem sync_off (b : Nat) (w : World) (hc : w.cell? ⟨b, 0, none⟩ = some (.bool true)) : Calls Tryz.prog 38 #[.pointer (some ⟨b, 0, none⟩)] w fun e w' => e = .returned (.int .i64 91) ∧ w = w' := by
  go_enter Tryz.func38, Tryz.ntmps38
  go_wp2_with (go_at_call 42; refine (check_off _ _ hc).mono ?_; rintro e w' ⟨rfl, rfl⟩)
  go_ret
  exact ⟨rfl, rfl⟩

theorem DkIn.drew {tD tW tB : TypeId} {w : World} {b bd bv : Nat} {pv : Value} {D : Dk} (h : DkIn tD tW tB w b bd bv pv D) : DkIn tD tW tB w.drew b bd bv pv D := h.keep fun _ _ => rfl

set_option maxRecDepth 100000 in
set_option maxHeartbeats 800000 in
theorem sync_on (b bd bv : Nat) (pv : Value) (D : Dk) (w : World) (h : DkI w b bd bv pv D) (ho : D.off = false) :
    Calls Tryz.prog 38 #[.pointer (some ⟨b, 0, none⟩)] w fun e w' => e = .returned (.int .i64 0) ∧ ∃ pv', DkI w' b bd bv pv' D.sync ∧ pv'.ownBlock = pv.ownBlock ∧ Fr (b :: bd :: bv :: pv.ownBlock.toList) w w' := by
  have hc : w.cell? ⟨b, 0, none⟩ = some (.bool false) := by rw [cell_of_blk h.str]; simp [ho]
  have hc2 : w.cell? ⟨b, 2, none⟩ = some (.slice (some ⟨bd, 0, none⟩) D.dur.length D.dur.length) := by rw [cell_of_blk h.str]; rfl
  have hc3 : w.cell? ⟨b, 3, none⟩ = some (.slice (some ⟨bv, 0, none⟩) D.dur.length D.dur.length) := by rw [cell_of_blk h.str]; rfl
  have cS := Lib.hid (settle_dur b bd bv pv D w.drew h.drew)
  clear h ho
  go_enter Tryz.func38, Tryz.ntmps38
  go_wp2_with (go_at_call 42; refine (check_on _ _ hc).mono ?_; rintro e w' ⟨rfl, rfl⟩)
  go_region_law (go_simp; go_at_call 65; refine cS.out.mono ?_; rintro e w' ⟨rfl, pv', h1, h2, h3⟩)
  all_goals
    have H1 := Lib.hid h1; have H2 := Lib.hid h2; clear h1 h2
    go_wp2
    go_ret
    exact ⟨rfl, pv', H1.out, H2.out, (Fr.drew _ _).trans h3⟩

theorem madeCells_bytes (n : Nat) : madeCells #[Value.int .u8 0] n = (byteCells (List.replicate n 0)).toArray := by
  apply Array.ext'
  simp only [madeCells, Array.toList_map, Array.toList_range, byteCells]
  apply List.ext_getElem
  · simp
  · intro i h1 h2
    simp [Nat.mod_one]

/-- A new disk. -/
def Dk.new (n : Nat) : Dk := { off := false, left := 0, dur := List.replicate n 0, vis := List.replicate n 0, pend := [] }

set_option maxHeartbeats 400000 in
theorem new_bad (n : Int) (w : World) (hn : n < 1 ∨ 4194304 < n) : Calls Tryz.prog 22 #[.int .i64 n] w fun e w' => e = .returned (.tuple #[.pointer none, .int .i64 2]) ∧ w = w' := by
  rcases hn with hn | hn
  · go_enter Tryz.func22, Tryz.ntmps22
    go_wp2
    go_ret2
    exact ⟨rfl, rfl⟩
  · have h1 : decide (n < 1) = false := by simp; omega
    go_enter Tryz.func22, Tryz.ntmps22
    go_wp2
    go_ret2
    exact ⟨rfl, rfl⟩

def NewDisk (n : Nat) (w : World) (e : Ending) (w' : World) : Prop :=
  ∃ b fp, e = .returned (.tuple #[.pointer (some ⟨b, 0, none⟩), .int .i64 0]) ∧ DkA w' b fp (Dk.new n) ∧ Fr [] w w' ∧ ∀ k, k ∈ fp → w.heap.size ≤ k

theorem newDk_of (n b bd bv : Nat) (w : World) (h1 : 1 ≤ n) (h2 : n ≤ 4194304)
    (hs : w.heap[b]? = some (.cells #[.bool false, .int .i64 0, .slice (some ⟨bd, 0, none⟩) n n, .slice (some ⟨bv, 0, none⟩) n n, .slice none 0 0] 94 (0, 0)))
    (hd : w.heap[bd]? = some (.cells (madeCells #[Value.int .u8 0] n) 5 (0, 0))) (hv : w.heap[bv]? = some (.cells (madeCells #[Value.int .u8 0] n) 5 (0, 0)))
    (n1 : b ≠ bd) (n2 : b ≠ bv) (n3 : bd ≠ bv) : DkI w b bd bv (.slice none 0 0) (Dk.new n) where
  ok := ⟨by simp [Dk.new], by simpa [Dk.new] using h1, by simpa [Dk.new] using h2, by simp [Dk.new], by simp [Dk.new]⟩
  str := by simpa [Dk.new] using hs
  dur := by rw [BytesAt, hd, madeCells_bytes]; rfl
  vis := by rw [BytesAt, hv, madeCells_bytes]; rfl
  pend := ⟨rfl, .inl ⟨rfl, rfl⟩⟩
  ne1 := n1
  ne2 := n2
  ne3 := n3
  nep := fun g hg => by cases hg

theorem alloc3 (w : World) (x y z : Obj) : (((w.alloc x).alloc y).alloc z).drew.heap[w.heap.size]? = some x ∧ (((w.alloc x).alloc y).alloc z).drew.heap[w.heap.size + 1]? = some y ∧ (((w.alloc x).alloc y).alloc z).drew.heap[w.heap.size + 1 + 1]? = some z := by
  have e1 : (w.alloc x).heap.size = w.heap.size + 1 := by simp
  have e2 : ((w.alloc x).alloc y).heap.size = w.heap.size + 1 + 1 := by simp
  have h0 := heap_alloc_new w x
  have h1 := heap_alloc_new (w.alloc x) y
  have h2 := heap_alloc_new ((w.alloc x).alloc y) z
  rw [e1] at h1
  rw [e2] at h2
  exact ⟨heap_alloc_old z (heap_alloc_old y h0), heap_alloc_old z h1, h2⟩

set_option maxRecDepth 100000 in
set_option maxHeartbeats 800000 in
theorem new_ok (n : Nat) (w : World) (h1 : 1 ≤ n) (h2 : n ≤ 4194304) : Calls Tryz.prog 22 #[.int .i64 n] w (NewDisk n w) := by
  have hmk := fun w => run_make_row' (P := Tryz.prog) 39 5 (.int .u8 0) 1 Tryz.underlying39 infoB rfl .i64 .i64 n (by omega) (by omega) w
  have hd : decide ((n : Int) < 1) = false := by simp; omega
  have hd1 : decide ((4194304 : Int) < n) = false := by simp; omega
  go_enter Tryz.func22, Tryz.ntmps22
  go_wp2
  go_region
  all_goals
    go_wp2
    go_ret2
  · obtain ⟨x0, x1, x2⟩ := alloc3 w (.cells (madeCells #[Value.int .u8 0] n) 5) (.cells (madeCells #[Value.int .u8 0] n) 5) (.cells #[.bool false, .int .i64 0, .slice (some ⟨w.heap.size, 0, none⟩) n n, .slice (some ⟨w.heap.size + 1, 0, none⟩) n n, .slice none 0 0] 94)
    exact ⟨_, _, rfl, ⟨_, _, _, newDk_of n _ _ _ _ h1 h2 x2 x0 x1 (by omega) (by omega) (by omega), rfl⟩, (((Fr.alloc _ _ _).trans (Fr.alloc _ _ _)).trans (Fr.alloc _ _ _)).trans (Fr.drew _ _), by simp [Value.ownBlock]; omega⟩
  · obtain ⟨x0, x1, x2⟩ := alloc3 w (.cells (madeCells #[Value.int .u8 0] n) 5) (.cells (madeCells #[Value.int .u8 0] n) 5) (.cells #[.bool false, .int .i64 0, .slice (some ⟨w.heap.size + 1, 0, none⟩) n n, .slice (some ⟨w.heap.size, 0, none⟩) n n, .slice none 0 0] 94)
    exact ⟨_, _, rfl, ⟨_, _, _, newDk_of n _ _ _ _ h1 h2 x2 x1 x0 (by omega) (by omega) (by omega), rfl⟩, (((Fr.alloc _ _ _).trans (Fr.alloc _ _ _)).trans (Fr.alloc _ _ _)).trans (Fr.drew _ _), by simp [Value.ownBlock]; omega⟩

end Go.Proofs.YtbogljpafpkikaaGreatDoor

/-
  The walks of package disk, sixth part: Write.
-/
namespace Go.Proofs.YtbogljpafpkikaaGreatDoor
open Go.RowKit Go.Lib

set_option maxHeartbeats 400000 in
theorem write_nil (off : Int) (s : ByteArray) (w : World) : Calls Tryz.prog 11 #[.pointer none, .int .i64 off, .string s] w fun e w' => e = .returned (.int .i64 1) ∧ w = w' := by
  go_enter Tryz.func11, Tryz.ntmps11
  go_wp2_with (go_at_call 42; refine (check_nil _).mono ?_; rintro e w' ⟨rfl, rfl⟩)
  go_ret
  exact ⟨rfl, rfl⟩
set_option maxHeartbeats 400000 in
theorem write_off (b : Nat) (off : Int) (s : ByteArray) (w : World) (hc : w.cell? ⟨b, 0, none⟩ = some (.bool true)) : Calls Tryz.prog 11 #[.pointer (some ⟨b, 0, none⟩), .int .i64 off, .string s] w fun e w' => e = .returned (.int .i64 91) ∧ w = w' := by
  go_enter Tryz.func11, Tryz.ntmps11
  go_wp2_with (go_at_call 42; refine (check_off _ _ hc).mono ?_; rintro e w' ⟨rfl, rfl⟩)
  go_ret
  exact ⟨rfl, rfl⟩
set_option maxHeartbeats 400000 in
theorem write_out (b bd m : Nat) (off : Int) (s : ByteArray) (w : World) (hc : w.cell? ⟨b, 0, none⟩ = some (.bool false)) (hc2 : w.cell? ⟨b, 2, none⟩ = some (.slice (some ⟨bd, 0, none⟩) m m)) (hm : m ≤ 4194304) (ho : -9223372036854775808 ≤ off) (ho2 : off ≤ 9223372036854775807) (hn2 : s.size ≤ 9223372036854775807) (hi : insB m off s.size = false) :
    Calls Tryz.prog 11 #[.pointer (some ⟨b, 0, none⟩), .int .i64 off, .string s] w fun e w' => e = .returned (.int .i64 90) ∧ w = w' := by
  have cI := inside_c b bd m off s.size w hc2 hm ho ho2 (by omega) (by omega)
  rw [hi] at cI
  have CI := Lib.hid cI; clear cI
  have Hi := Lib.hid hi; clear hi
  go_enter Tryz.func11, Tryz.ntmps11
  go_wp2_with (first | (go_at_call 42; refine (check_on _ _ hc).mono ?_; rintro e w' ⟨rfl, rfl⟩) | (go_at_call 43; refine CI.out.mono ?_; rintro e w' ⟨rfl, rfl⟩))
  go_ret
  exact ⟨rfl, rfl⟩

theorem alloc2 (w : World) (x y : Obj) : ((w.alloc x).alloc y).heap[w.heap.size]? = some x ∧ ((w.alloc x).alloc y).heap[w.heap.size + 1]? = some y := by
  have e1 : (w.alloc x).heap.size = w.heap.size + 1 := by simp
  have h0 := heap_alloc_new w x
  have h1 := heap_alloc_new (w.alloc x) y
  rw [e1] at h1
  exact ⟨heap_alloc_old y h0, h1⟩

/-- Behind the append and the store: the world in which the write's bytes are laid. -/
structure AtOnto (w : World) (b bd bv : Nat) (pv : Value) (D : Dk) (o : Nat) (s : ByteArray) (w2 : World) : Prop where
  tmp : w2.heap[w.heap.size]? = some (.cells #[.int .i64 o, .string s] 89 (0, 0))
  disk : ∃ pv', DkI w2 b bd bv pv' { D with pend := D.pend ++ [(o, s)] } ∧ (∀ g, pv'.ownBlock = some g → pv.ownBlock = some g ∨ w.heap.size ≤ g)
  fr : Fr (b :: bd :: bv :: pv.ownBlock.toList) w w2

theorem atOnto (b bd bv : Nat) (pv : Value) (D : Dk) (o : Nat) (s : ByteArray) (w w1 w2 : World) (h : DkI w b bd bv pv D) (hs : o + s.size ≤ D.dur.length) (B2 : Obj) (g cap : Nat)
    (hw1 : Fr pv.ownBlock.toList ((w.alloc (.cells #[.int .i64 o, .string s] 89)).alloc B2) w1)
    (hown : w1.ownsRow 0 89 2 (.slice (some ⟨g, 0, none⟩) (D.pend.length + 1) cap) (D.pend.length + 1) (pendC D.pend ++ [.int .i64 o, .string s]))
    (hg : pv.ownBlock = some g ∨ g = w.heap.size + 1 + 1) (hw2 : w2.heap = (w1.setCell ⟨b, 4, none⟩ (.slice (some ⟨g, 0, none⟩) (D.pend.length + 1) cap)).heap) (ho : w2.os = w1.os) (ht : w2.tape = w1.tape) (hp : w2.output = w1.output) : AtOnto w b bd bv pv D o s w2 := by
  have hlt := h.fp_lt
  have lb : b < w.heap.size := hlt b (by simp)
  have lbd : bd < w.heap.size := hlt bd (by simp)
  have lbv : bv < w.heap.size := hlt bv (by simp)
  have hgb : g ≠ b ∧ g ≠ bd ∧ g ≠ bv := by
    rcases hg with hg | hg
    · exact h.nep g hg
    · omega
  have hne : w.heap.size ∉ pv.ownBlock.toList := fun hm => Nat.lt_irrefl _ (hlt _ (by simp only [List.mem_cons]; exact .inr (.inr (.inr hm))))
  have a2 := (alloc2 w (.cells #[.int .i64 o, .string s] 89) B2).1
  have f0 : Fr pv.ownBlock.toList w w1 := ((Fr.alloc _ _ _).trans (Fr.alloc _ _ _)).trans hw1
  have kp : ∀ k, k < w.heap.size → k ∉ pv.ownBlock.toList → k ≠ b → w2.heap[k]? = w.heap[k]? := fun k h1 h2 h3 => by
    rw [hw2, Below.heap_setCell _ _ _ _ h3]; exact f0.block k h1 h2
  have nb : ∀ k, pv.ownBlock ≠ some k → k ∉ pv.ownBlock.toList := fun k hk hm => hk (by simpa using hm)
  refine ⟨?_, ⟨.slice (some ⟨g, 0, none⟩) (D.pend.length + 1) cap, ⟨⟨h.ok.len, h.ok.pos, h.ok.max, h.ok.left, ?_⟩, ?_, ?_, ?_, ?_, h.ne1, h.ne2, h.ne3, ?_⟩, ?_⟩, ?_⟩
  · rw [hw2, Below.heap_setCell _ _ _ _ (by simp; omega)]
    exact hw1.keep a2 hne
  · intro p hp
    simp only [List.mem_append, List.mem_singleton] at hp
    rcases hp with hp | rfl
    · exact h.ok.pend p hp
    · exact hs
  · rw [hw2]
    have hb1 := f0.keep h.str (nb b fun hm => (h.nep b hm).1 rfl)
    rw [heap_setCell_same _ hb1]
    simp
  · exact (kp bd lbd (nb bd fun hm => (h.nep bd hm).2.1 rfl) h.ne1.symm).trans h.dur
  · exact (kp bv lbv (nb bv fun hm => (h.nep bv hm).2.2 rfl) h.ne2.symm).trans h.vis
  · have : w2.ownsRow 0 89 2 (.slice (some ⟨g, 0, none⟩) (D.pend.length + 1) cap) (D.pend.length + 1) (pendC D.pend ++ [.int .i64 o, .string s]) :=
      ownsRow_keep hown fun g' hg' => by
        have : g' = g := by simpa [Value.ownBlock] using hg'.symm
        subst this
        rw [hw2, Below.heap_setCell _ _ _ _ hgb.1]
    simpa [pendC_snoc] using this
  · intro g' hg'
    have : g' = g := by simpa [Value.ownBlock] using hg'.symm
    subst this
    exact hgb
  · intro g' hg'
    have : g' = g := by simpa [Value.ownBlock] using hg'.symm
    subst this
    rcases hg with hg | hg
    · exact .inl hg
    · exact .inr (by omega)
  · have f1 : Fr (b :: bd :: bv :: pv.ownBlock.toList) w (w1.setCell ⟨b, 4, none⟩ (.slice (some ⟨g, 0, none⟩) (D.pend.length + 1) cap)) :=
      (f0.mono fun i hi => by simp only [List.mem_cons]; exact .inr (.inr (.inr hi))).trans (Fr.setCell _ _ (by simp))
    exact ⟨ho.trans f1.os, ht.trans f1.tape, hp.trans f1.output, by rw [hw2]; exact f1.size, fun k h1 h2 => by rw [hw2]; exact f1.block k h1 h2⟩


theorem putIn {w w' : World} {b bd bv o : Nat} {pv : Value} {D : Dk} {s : ByteArray} (h : DkI w b bd bv pv { D with pend := D.pend ++ [(o, s)] }) (hs : o + s.size ≤ D.dur.length) (hf : Fr [bv] w w') (hb : BytesAt w' bv 5 (paste D.vis o s.data.toList)) : DkI w' b bd bv pv (D.put o s) where
  ok := by
    have h0 : D.Ok := ⟨h.ok.len, h.ok.pos, h.ok.max, h.ok.left, fun p hp => h.ok.pend p (by simp [hp])⟩
    exact h0.put hs
  str := hf.keep h.str (by simpa using h.ne2)
  dur := hf.keep h.dur (by simpa using h.ne3)
  vis := hb
  pend := ownsRow_keep h.pend fun g hg => hf.block g (ownsRow_lt h.pend hg) (by simpa using (h.nep g hg).2.2)
  ne1 := h.ne1
  ne2 := h.ne2
  ne3 := h.ne3
  nep := h.nep

set_option maxRecDepth 100000 in
set_option maxHeartbeats 1000000 in
theorem write_ok (b bd bv o : Nat) (pv : Value) (D : Dk) (s : ByteArray) (w : World) (h : DkI w b bd bv pv D) (ho : D.off = false) (hs : o + s.size ≤ D.dur.length) (hp : D.pend.length ≤ 4294967296) :
    Calls Tryz.prog 11 #[.pointer (some ⟨b, 0, none⟩), .int .i64 o, .string s] w fun e w' => e = .returned (.int .i64 0) ∧ ∃ pv', DkI w' b bd bv pv' (D.write o s) ∧ (∀ g, pv'.ownBlock = some g → pv.ownBlock = some g ∨ w.heap.size ≤ g) ∧ Fr (b :: bd :: bv :: pv.ownBlock.toList) w w' := by
  have hc : w.cell? ⟨b, 0, none⟩ = some (.bool false) := by rw [cell_of_blk h.str]; simp [ho]
  have hc2 : w.cell? ⟨b, 2, none⟩ = some (.slice (some ⟨bd, 0, none⟩) D.dur.length D.dur.length) := by rw [cell_of_blk h.str]; rfl
  have hc4 : w.cell? ⟨b, 4, none⟩ = some pv := by rw [cell_of_blk h.str]; rfl
  have hm := h.ok.max
  have cI := inside_c b bd _ o s.size w hc2 hm (by omega) (by omega) (by omega) (by omega)
  rw [show insB D.dur.length o s.size = true by simp [insB]; omega] at cI
  have CI := Lib.hid cI; clear cI
  have hbl := blk_lt h.str
  have Hp : Hid (∀ x y, (((w.alloc x).alloc y).drew).ownsRow 0 89 2 pv D.pend.length (pendC D.pend)) := Lib.hid fun x y => ownsRow_keep h.pend fun g hg =>
    (Below.heap_alloc _ _ _ (by have := ownsRow_lt h.pend hg; simp; omega)).trans (Below.heap_alloc _ _ _ (ownsRow_lt h.pend hg))
  have HN : Hid (∀ x y, (((w.alloc x).alloc y).drew).heap[w.heap.size + 1]? = some y) := Lib.hid fun x y => (alloc2 w x y).2
  have H := Lib.hid h; have Ho := Lib.hid ho; clear h ho
  go_enter Tryz.func11, Tryz.ntmps11
  go_wp2_with (first | (go_at_call 42; refine (check_on _ _ hc).mono ?_; rintro e w' ⟨rfl, rfl⟩) | (go_at_call 43; refine CI.out.mono ?_; rintro e w' ⟨rfl, rfl⟩))
  have nb : b ∉ pv.ownBlock.toList := fun hm => (H.out.nep b (by simpa using hm)).1 rfl
  go_region_law (refine step_of_wp rfl (wp_append_blk (.tmp 27) (.tmp 29) 90 89 _ 2 24 rfl Tryz.underlying90 infoW rfl (by decide) pv D.pend.length (pendC D.pend) rfl (by exact Hp.out _ _) (w.heap.size + 1) 1 1 _ _ _ rfl (by exact HN.out _ _) rfl (by simp [Value.oneCell']) (by decide) (by omega) (by omega) ?_); intro g cap w1 hown hfr hat; have KB := Lib.hid (hfr.keep (heap_alloc_old _ (heap_alloc_old _ H.out.str)) nb); have c4 : w1.cell? ⟨b, 4, none⟩ = some pv := cell_of_blk KB.out 4; have z4 := free_of_blk KB.out 4; have Hown := Lib.hid hown; have Hat := Lib.hid hat; clear hown hat)
  all_goals
    have HA : AtOnto w b bd bv pv D o s (w1.setCell ⟨b, 4, none⟩ (.slice (some ⟨g, 0, none⟩) (D.pend.length + 1) cap)) := atOnto b bd bv pv D o s w w1 _ H.out hs _ g cap ((Fr.drew _ _).trans hfr) (by simpa using Hown.out) (by simpa using Hat.out) rfl rfl rfl rfl
    generalize w1.setCell ⟨b, 4, none⟩ (.slice (some ⟨g, 0, none⟩) (D.pend.length + 1) cap) = w2 at HA ⊢
    clear c4 z4 KB Hown Hat hfr
    obtain ⟨tmp, ⟨pv', hd, hsub⟩, fr⟩ := HA
    have t0 : w2.cell? ⟨w.heap.size, 0, none⟩ = some (.int .i64 o) := cell_of_blk tmp 0
    have t1 : w2.cell? ⟨w.heap.size, 1, none⟩ = some (.string s) := cell_of_blk tmp 1
    have c3 : w2.cell? ⟨b, 3, none⟩ = some (.slice (some ⟨bv, 0, none⟩) D.dur.length D.dur.length) := cell_of_blk hd.str 3
    have CO := Lib.hid (onto_any o s bv D.dur.length D.vis w2.drew hs hm hd.vis hd.ok.len)
    have Hd := Lib.hid hd; have Hsub := Lib.hid hsub; have Tmp := Lib.hid tmp; clear hd hsub tmp
    go_wp2
    go_region_law (go_simp; go_at_call 44; refine CO.out.mono ?_; rintro e w3 ⟨rfl, f3, b3⟩)
    all_goals
      have Hu := Lib.hid (used_dk b bd bv pv' (D.put o s) w3 (putIn Hd.out hs ((Fr.drew _ _).trans f3) b3))
      clear b3
      go_wp2_with (go_at_call 45; refine Hu.out.mono ?_; rintro e w4 ⟨rfl, d4, f4⟩)
      go_ret
      exact ⟨rfl, pv', d4, Hsub.out, (fr.trans ((Fr.drew _ _).trans (f3.mono (by simp)))).trans (f4.mono (by simp))⟩


/-- What Write returns, and what it leaves. -/
def Dk.writeE (D : Dk) (off : Int) (s : ByteArray) : Int := if D.off then 91 else if insB D.dur.length off s.size then 0 else 90
def Dk.writeD (D : Dk) (off : Int) (s : ByteArray) : Dk := if D.off then D else if insB D.dur.length off s.size then D.write off.toNat s else D

/-- A call that changes a disk: what it returns, the disk after it, the blocks. -/
def DkStep (b : Nat) (fp : List Nat) (r : Value) (D : Dk) (w : World) (e : Ending) (w' : World) : Prop := e = .returned r ∧ ∃ fp', DkA w' b fp' D ∧ Upd fp fp' w w'

theorem dkStep_of {b bd bv : Nat} {pv : Value} {r : Value} {D : Dk} {w w' : World} {e : Ending} (he : e = .returned r) {pv' : Value} (h : DkI w' b bd bv pv' D) (hs : ∀ g, pv'.ownBlock = some g → pv.ownBlock = some g ∨ w.heap.size ≤ g)
    (hf : Fr (b :: bd :: bv :: pv.ownBlock.toList) w w') : DkStep b (b :: bd :: bv :: pv.ownBlock.toList) r D w e w' :=
  ⟨he, _, ⟨bd, bv, pv', h, rfl⟩, hf, fun k hk => by
    simp only [List.mem_cons, Option.mem_toList] at hk ⊢
    rcases hk with hk | hk | hk | hk
    · exact .inl (.inl hk)
    · exact .inl (.inr (.inl hk))
    · exact .inl (.inr (.inr (.inl hk)))
    · rcases hs k hk with h | h
      · exact .inl (.inr (.inr (.inr h)))
      · exact .inr h⟩

theorem dkStep_same {b : Nat} {fp : List Nat} {r : Value} {D : Dk} {w w' : World} {e : Ending} (he : e = .returned r) (h : DkA w b fp D) (hw : w = w') : DkStep b fp r D w e w' := by
  subst hw; exact ⟨he, fp, h, Upd.refl _ _⟩

theorem write_dk (b : Nat) (fp : List Nat) (D : Dk) (off : Int) (s : ByteArray) (w : World) (h : DkA w b fp D) (ho : -9223372036854775808 ≤ off) (ho2 : off ≤ 9223372036854775807) (hs : s.size ≤ 9223372036854775807) (hp : D.pend.length ≤ 4294967296) :
    Calls Tryz.prog 11 #[.pointer (some ⟨b, 0, none⟩), .int .i64 off, .string s] w (DkStep b fp (.int .i64 (D.writeE off s)) (D.writeD off s) w) := by
  have h0 := h
  obtain ⟨bd, bv, pv, h, rfl⟩ := h
  have hm := h.ok.max
  cases hoff : D.off with
  | true =>
    rw [show D.writeE off s = 91 by simp [Dk.writeE, hoff], show D.writeD off s = D by simp [Dk.writeD, hoff]]
    exact (write_off b off s w (by rw [cell_of_blk h.str]; simp [hoff])).mono fun e w' ⟨he, hw⟩ => dkStep_same he h0 hw
  | false =>
    cases hi : insB D.dur.length off s.size with
    | false =>
      rw [show D.writeE off s = 90 by simp [Dk.writeE, hoff, hi], show D.writeD off s = D by simp [Dk.writeD, hi]]
      exact (write_out b bd _ off s w (by rw [cell_of_blk h.str]; simp [hoff]) (by rw [cell_of_blk h.str]; rfl) hm ho ho2 hs hi).mono fun e w' ⟨he, hw⟩ => dkStep_same he h0 hw
    | true =>
      rw [show D.writeE off s = 0 by simp [Dk.writeE, hoff, hi], show D.writeD off s = D.write off.toNat s by simp [Dk.writeD, hoff, hi]]
      simp only [insB, decide_eq_true_eq] at hi
      obtain ⟨o, rfl⟩ := Int.eq_ofNat_of_zero_le hi.1
      exact (write_ok b bd bv o pv D s w h hoff (by omega) hp).mono fun e w' ⟨he, pv', h1, h2, h3⟩ => dkStep_of he h1 h2 h3

/-- What Sync returns, and what it leaves. -/
def Dk.syncE (D : Dk) : Int := if D.off then 91 else 0
def Dk.syncD (D : Dk) : Dk := if D.off then D else D.sync
theorem sync_dk (b : Nat) (fp : List Nat) (D : Dk) (w : World) (h : DkA w b fp D) : Calls Tryz.prog 38 #[.pointer (some ⟨b, 0, none⟩)] w (DkStep b fp (.int .i64 D.syncE) D.syncD w) := by
  have h0 := h
  obtain ⟨bd, bv, pv, h, rfl⟩ := h
  cases hoff : D.off with
  | true =>
    rw [show D.syncE = 91 by simp [Dk.syncE, hoff], show D.syncD = D by simp [Dk.syncD, hoff]]
    exact (sync_off b w (by rw [cell_of_blk h.str]; simp [hoff])).mono fun e w' ⟨he, hw⟩ => dkStep_same he h0 hw
  | false =>
    rw [show D.syncE = 0 by simp [Dk.syncE, hoff], show D.syncD = D.sync by simp [Dk.syncD, hoff]]
    exact (sync_on b bd bv pv D w h hoff).mono fun e w' ⟨he, pv', h1, h2, h3⟩ => dkStep_of he h1 (fun g hg => .inl (h2 ▸ hg)) h3

end Go.Proofs.YtbogljpafpkikaaGreatDoor
