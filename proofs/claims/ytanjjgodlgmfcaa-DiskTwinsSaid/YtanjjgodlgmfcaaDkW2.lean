/-
  The walks of package disk, second part: inside, Read, Size, Pending, Cut, settle, Sync.
-/
import Derived.Test.YtanjjgodlgmfcaaDkW
namespace Go.Proofs.Ytanjjgodlgmfcaa
open Go.RowKit Go.Lib

set_option maxHeartbeats 1000000 in
theorem inside_c (b bd m : Nat) (off n : Int) (w : World) (hc : w.cell? ⟨b, 2, none⟩ = some (.slice (some ⟨bd, 0, none⟩) m m)) (hm : m ≤ 4194304) (ho : -9223372036854775808 ≤ off) (ho2 : off ≤ 9223372036854775807) (hn : -9223372036854775808 ≤ n) (hn2 : n ≤ 9223372036854775807) :
    Calls Try.prog 29 #[.pointer (some ⟨b, 0, none⟩), .int .i64 off, .int .i64 n] w fun e w' => e = .returned (.bool (insB m off n)) ∧ w = w' := by
  by_cases h1 : 0 ≤ off
  · by_cases h2 : 0 ≤ n
    · by_cases h3 : off ≤ m
      · by_cases h4 : n ≤ m - off
        · have hb : insB m off n = true := by simp [insB]; omega
          rw [hb]
          go_enter Try.func29, Try.ntmps29
          go_wp2
          go_ret
          exact ⟨rfl, rfl⟩
        · have hb : insB m off n = false := by simp [insB]; omega
          rw [hb]
          have h4' : (m : Int) - off < n := by omega
          go_enter Try.func29, Try.ntmps29
          go_wp2
          go_ret
          exact ⟨rfl, rfl⟩
      · have hb : insB m off n = false := by simp [insB]; omega
        rw [hb]
        have h3' : (m : Int) < off := by omega
        have h3d : decide (off ≤ (m : Int)) = false := by simp; omega
        go_enter Try.func29, Try.ntmps29
        go_wp2
        go_ret
        exact ⟨rfl, rfl⟩
    · have hb : insB m off n = false := by simp [insB]; omega
      rw [hb]
      have h2d : decide (0 ≤ n) = false := by simp; omega
      go_enter Try.func29, Try.ntmps29
      go_wp2
      go_ret
      exact ⟨rfl, rfl⟩
  · have hb : insB m off n = false := by simp [insB]; omega
    rw [hb]
    have h1d : decide (0 ≤ off) = false := by simp; omega
    go_enter Try.func29, Try.ntmps29
    go_wp2
    go_ret
    exact ⟨rfl, rfl⟩

set_option maxHeartbeats 400000 in
theorem size_nil (w : World) : Calls Try.prog 16 #[.pointer none] w fun e w' => e = .returned (.int .i64 0) ∧ w = w' := by
  go_enter Try.func16, Try.ntmps16
  go_wp2
  go_ret
  exact ⟨rfl, rfl⟩
set_option maxHeartbeats 400000 in
theorem size_c (b : Nat) (a : Option Addr) (m c : Nat) (w : World) (hc : w.cell? ⟨b, 2, none⟩ = some (.slice a m c)) : Calls Try.prog 16 #[.pointer (some ⟨b, 0, none⟩)] w fun e w' => e = .returned (.int .i64 m) ∧ w = w' := by
  go_enter Try.func16, Try.ntmps16
  go_wp2
  go_ret
  exact ⟨rfl, rfl⟩
set_option maxHeartbeats 400000 in
theorem pending_nil (w : World) : Calls Try.prog 17 #[.pointer none] w fun e w' => e = .returned (.int .i64 0) ∧ w = w' := by
  go_enter Try.func17, Try.ntmps17
  go_wp2
  go_ret
  exact ⟨rfl, rfl⟩
set_option maxHeartbeats 400000 in
theorem pending_c (b : Nat) (a : Option Addr) (m c : Nat) (w : World) (hc : w.cell? ⟨b, 4, none⟩ = some (.slice a m c)) : Calls Try.prog 17 #[.pointer (some ⟨b, 0, none⟩)] w fun e w' => e = .returned (.int .i64 m) ∧ w = w' := by
  go_enter Try.func17, Try.ntmps17
  go_wp2
  go_ret
  exact ⟨rfl, rfl⟩

/-- A value that owns a row is a slice of that length. -/
theorem ownsRow_slice {w : World} {base : Nat} {e : TypeId} {size : Nat} {v : Value} {n : Nat} {xs : List Value} (h : w.ownsRow base e size v n xs) : ∃ a c, v = .slice a n c := by
  rcases h.2 with ⟨rfl, rfl⟩ | ⟨g, cap, cur, rfl, _⟩
  · exact ⟨_, _, rfl⟩
  · exact ⟨_, _, rfl⟩

theorem size_dk (b : Nat) (fp : List Nat) (D : Dk) (w : World) (h : DkA w b fp D) : Calls Try.prog 16 #[.pointer (some ⟨b, 0, none⟩)] w fun e w' => e = .returned (.int .i64 D.dur.length) ∧ w = w' := by
  obtain ⟨bd, bv, pv, h, rfl⟩ := h
  exact size_c b _ _ _ w (by rw [cell_of_blk h.str]; rfl)
theorem pending_dk (b : Nat) (fp : List Nat) (D : Dk) (w : World) (h : DkA w b fp D) : Calls Try.prog 17 #[.pointer (some ⟨b, 0, none⟩)] w fun e w' => e = .returned (.int .i64 D.pend.length) ∧ w = w' := by
  obtain ⟨bd, bv, pv, h, rfl⟩ := h
  obtain ⟨a, c, rfl⟩ := ownsRow_slice h.pend
  exact pending_c b _ _ _ w (by rw [cell_of_blk h.str]; rfl)

/-! ### Cut -/
set_option maxHeartbeats 400000 in
theorem cut_nil (n : Int) (w : World) : Calls Try.prog 24 #[.pointer none, .int .i64 n] w fun e w' => e = .returned (.int .i64 1) ∧ w = w' := by
  go_enter Try.func24, Try.ntmps24
  go_wp2_with (go_at_call 28; refine (check_nil _).mono ?_; rintro e w' ⟨rfl, rfl⟩)
  go_ret
  exact ⟨rfl, rfl⟩
set_option maxHeartbeats 400000 in
theorem cut_off (b : Nat) (n : Int) (w : World) (hc : w.cell? ⟨b, 0, none⟩ = some (.bool true)) : Calls Try.prog 24 #[.pointer (some ⟨b, 0, none⟩), .int .i64 n] w fun e w' => e = .returned (.int .i64 91) ∧ w = w' := by
  go_enter Try.func24, Try.ntmps24
  go_wp2_with (go_at_call 28; refine (check_off _ _ hc).mono ?_; rintro e w' ⟨rfl, rfl⟩)
  go_ret
  exact ⟨rfl, rfl⟩
set_option maxHeartbeats 400000 in
theorem cut_neg (b : Nat) (n : Int) (w : World) (hc : w.cell? ⟨b, 0, none⟩ = some (.bool false)) (hn : n < 0) : Calls Try.prog 24 #[.pointer (some ⟨b, 0, none⟩), .int .i64 n] w fun e w' => e = .returned (.int .i64 2) ∧ w = w' := by
  go_enter Try.func24, Try.ntmps24
  go_wp2_with (go_at_call 28; refine (check_on _ _ hc).mono ?_; rintro e w' ⟨rfl, rfl⟩)
  go_ret
  exact ⟨rfl, rfl⟩
set_option maxHeartbeats 400000 in
theorem cut_pos (b : Nat) (n : Int) (x : Value) (w : World) (hc : w.cell? ⟨b, 0, none⟩ = some (.bool false)) (hc1 : w.cell? ⟨b, 1, none⟩ = some x) (hf0 : w.frozen? ⟨b, 0, none⟩ = false) (hf1 : w.frozen? ⟨b, 1, none⟩ = false) (hn : 0 ≤ n) :
    Calls Try.prog 24 #[.pointer (some ⟨b, 0, none⟩), .int .i64 n] w fun e w' => e = .returned (.int .i64 0) ∧ (w.setCell ⟨b, 0, none⟩ (.bool (n == 0))).setCell ⟨b, 1, none⟩ (.int .i64 n) = w' := by
  go_enter Try.func24, Try.ntmps24
  go_wp2_with (go_at_call 28; refine (check_on _ _ hc).mono ?_; rintro e w' ⟨rfl, rfl⟩)
  go_ret
  exact ⟨rfl, rfl⟩

/-- The first two cells of a disk's struct set anew. -/
theorem DkIn.power {w : World} {b bd bv : Nat} {pv : Value} {D : Dk} (h : DkI w b bd bv pv D) (o : Bool) (n : Nat) (hn : n ≤ 9223372036854775807) {w' : World}
    (hs : w'.heap[b]? = some (.cells #[.bool o, .int .i64 n, .slice (some ⟨bd, 0, none⟩) D.dur.length D.dur.length, .slice (some ⟨bv, 0, none⟩) D.dur.length D.dur.length, pv] 65 (0, 0)))
    (hk : ∀ k, k < w.heap.size → k ≠ b → w'.heap[k]? = w.heap[k]?) : DkI w' b bd bv pv { D with off := o, left := n } where
  ok := ⟨h.ok.len, h.ok.pos, h.ok.max, hn, h.ok.pend⟩
  str := hs
  dur := (hk bd (blk_lt h.dur) h.ne1.symm).trans h.dur
  vis := (hk bv (blk_lt h.vis) h.ne2.symm).trans h.vis
  pend := ownsRow_keep h.pend fun g hg => hk g (ownsRow_lt h.pend hg) (h.nep g hg).1
  ne1 := h.ne1
  ne2 := h.ne2
  ne3 := h.ne3
  nep := h.nep

/-- The error that Cut returns. -/
def Dk.cutE (D : Dk) (n : Int) : Int := if D.off then 91 else if n < 0 then 2 else 0
def Dk.cutD (D : Dk) (n : Int) : Dk := if D.off then D else if n < 0 then D else D.cut n.toNat

theorem cut_dk (b : Nat) (fp : List Nat) (D : Dk) (n : Int) (w : World) (h : DkA w b fp D) (hn : n ≤ 9223372036854775807) :
    Calls Try.prog 24 #[.pointer (some ⟨b, 0, none⟩), .int .i64 n] w fun e w' => e = .returned (.int .i64 (D.cutE n)) ∧ DkA w' b fp (D.cutD n) ∧ Fr fp w w' := by
  obtain ⟨bd, bv, pv, h, rfl⟩ := h
  by_cases ho : D.off = true
  · refine (cut_off b n w (by rw [cell_of_blk h.str]; simp [ho])).mono ?_
    rintro e w' ⟨rfl, rfl⟩
    rw [show D.cutE n = 91 by simp [Dk.cutE, ho], show D.cutD n = D by simp [Dk.cutD, ho]]
    exact ⟨rfl, ⟨_, _, _, h, rfl⟩, Fr.refl _ _⟩
  · have ho' : D.off = false := by simpa using ho
    by_cases hn0 : n < 0
    · refine (cut_neg b n w (by rw [cell_of_blk h.str]; simp [ho']) hn0).mono ?_
      rintro e w' ⟨rfl, rfl⟩
      rw [show D.cutE n = 2 by simp [Dk.cutE, ho', hn0], show D.cutD n = D by simp [Dk.cutD, hn0]]
      exact ⟨rfl, ⟨_, _, _, h, rfl⟩, Fr.refl _ _⟩
    · obtain ⟨k, rfl⟩ := Int.eq_ofNat_of_zero_le (Int.not_lt.1 hn0)
      refine (cut_pos b k (.int .i64 D.left) w (by rw [cell_of_blk h.str]; simp [ho']) (by rw [cell_of_blk h.str]; rfl) (free_of_blk h.str _) (free_of_blk h.str _) (by omega)).mono ?_
      rintro e w' ⟨rfl, rfl⟩
      have e0 : D.cutE (k : Int) = 0 := by simp [Dk.cutE, ho']
      have e1 : D.cutD (k : Int) = { D with off := k == 0, left := k } := by simp only [Dk.cutD, ho', hn0, if_false, Dk.cut, Int.toNat_natCast]; rfl
      rw [e0, e1]
      refine ⟨rfl, ⟨bd, bv, pv, h.power _ k (by omega) ?_ ?_, rfl⟩, (Fr.setCell _ _ (by simp)).trans (Fr.setCell _ _ (by simp))⟩
      · rw [heap_setCell_same _ (heap_setCell_same _ h.str)]
        have e2 : (((k : Nat) : Int) == 0) = (k == 0) := by rw [Bool.eq_iff_iff]; simp
        rw [e2]; simp
      · intro j _ hj
        exact (Below.heap_setCell _ _ _ _ hj).trans (Below.heap_setCell _ _ _ _ hj)

end Go.Proofs.Ytanjjgodlgmfcaa
