/-
  The walks of package disk, third part: Read, settle, Sync.
-/
import Derived.Test.YtanjjgodlgmfcaaDkW2
namespace Go.Proofs.Ytanjjgodlgmfcaa
open Go.RowKit Go.Lib

set_option maxHeartbeats 400000 in
theorem read_nil (off n : Int) (w : World) : Calls Try.prog 14 #[.pointer none, .int .i64 off, .int .i64 n] w fun e w' => e = .returned (.tuple #[.string ⟨#[]⟩, .int .i64 1]) ∧ w = w' := by
  go_enter Try.func14, Try.ntmps14
  go_wp2_with (go_at_call 28; refine (check_nil _).mono ?_; rintro e w' ⟨rfl, rfl⟩)
  go_ret2
  exact ⟨rfl, rfl⟩
set_option maxHeartbeats 400000 in
theorem read_off (b : Nat) (off n : Int) (w : World) (hc : w.cell? ⟨b, 0, none⟩ = some (.bool true)) : Calls Try.prog 14 #[.pointer (some ⟨b, 0, none⟩), .int .i64 off, .int .i64 n] w fun e w' => e = .returned (.tuple #[.string ⟨#[]⟩, .int .i64 91]) ∧ w = w' := by
  go_enter Try.func14, Try.ntmps14
  go_wp2_with (go_at_call 28; refine (check_off _ _ hc).mono ?_; rintro e w' ⟨rfl, rfl⟩)
  go_ret2
  exact ⟨rfl, rfl⟩
set_option maxHeartbeats 400000 in
theorem read_out (b bd m : Nat) (off n : Int) (w : World) (hc : w.cell? ⟨b, 0, none⟩ = some (.bool false)) (hc2 : w.cell? ⟨b, 2, none⟩ = some (.slice (some ⟨bd, 0, none⟩) m m)) (hm : m ≤ 4194304) (ho : -9223372036854775808 ≤ off) (ho2 : off ≤ 9223372036854775807) (hn : -9223372036854775808 ≤ n) (hn2 : n ≤ 9223372036854775807) (hi : insB m off n = false) :
    Calls Try.prog 14 #[.pointer (some ⟨b, 0, none⟩), .int .i64 off, .int .i64 n] w fun e w' => e = .returned (.tuple #[.string ⟨#[]⟩, .int .i64 90]) ∧ w = w' := by
  have cI := inside_c b bd m off n w hc2 hm ho ho2 hn hn2
  rw [hi] at cI
  have CI := Lib.hid cI; clear cI
  have Hi := Lib.hid hi; clear hi
  go_enter Try.func14, Try.ntmps14
  go_wp2_with (first | (go_at_call 28; refine (check_on _ _ hc).mono ?_; rintro e w' ⟨rfl, rfl⟩) | (go_at_call 29; refine CI.out.mono ?_; rintro e w' ⟨rfl, rfl⟩))
  go_ret2
  exact ⟨rfl, rfl⟩
set_option maxRecDepth 100000 in
set_option maxHeartbeats 800000 in
theorem read_in (b bd bv m off n : Nat) (l : List UInt8) (w : World) (hc : w.cell? ⟨b, 0, none⟩ = some (.bool false)) (hc2 : w.cell? ⟨b, 2, none⟩ = some (.slice (some ⟨bd, 0, none⟩) m m)) (hc3 : w.cell? ⟨b, 3, none⟩ = some (.slice (some ⟨bv, 0, none⟩) m m)) (hm : m ≤ 4194304) (hi : off + n ≤ m) (hb : BytesAt w bv 5 l) (hl : l.length = m) :
    Calls Try.prog 14 #[.pointer (some ⟨b, 0, none⟩), .int .i64 off, .int .i64 n] w fun e w' => e = .returned (.tuple #[.string ⟨((l.drop off).take n).toArray⟩, .int .i64 0]) ∧ w = w' := by
  have cI := inside_c b bd m off n w hc2 hm (by omega) (by omega) (by omega) (by omega)
  rw [show insB m off n = true by simp [insB]; omega] at cI
  have CI := Lib.hid cI; clear cI
  have Hb := Lib.hid hb; clear hb
  have Hl := Lib.hid hl; clear hl
  have ho : off ≤ m := by omega
  have hnn : n ≤ m - off := by omega
  by_cases he : m = off
  · subst he
    have h0 : n = 0 := by omega
    subst h0
    go_enter Try.func14, Try.ntmps14
    go_wp2_with (first | (go_at_call 28; refine (check_on _ _ hc).mono ?_; rintro e w' ⟨rfl, rfl⟩) | (go_at_call 29; refine CI.out.mono ?_; rintro e w' ⟨rfl, rfl⟩) | ((with_reducible refine wpList_of_wp (o := ⟨some 27, _, _, _, _, _⟩) rfl (fun K hK => ?_)); refine (wp_bytes_str (.tmp 26) 40 9 5 rfl Try.underlying40 Try.underlying5 Try.underlying9 bv 0 0 0 l 5 rfl Hb.out (by omega) (hK _ _ ?_))))
    go_ret2
    exact ⟨by simp, rfl⟩
  · go_enter Try.func14, Try.ntmps14
    go_wp2_with (first | (go_at_call 28; refine (check_on _ _ hc).mono ?_; rintro e w' ⟨rfl, rfl⟩) | (go_at_call 29; refine CI.out.mono ?_; rintro e w' ⟨rfl, rfl⟩) | ((with_reducible refine wpList_of_wp (o := ⟨some 27, _, _, _, _, _⟩) rfl (fun K hK => ?_)); refine (wp_bytes_str (.tmp 26) 40 9 5 rfl Try.underlying40 Try.underlying5 Try.underlying9 bv off n (m - off) l 5 rfl Hb.out (by rw [Hl.out]; omega) (hK _ _ ?_))))
    go_ret2
    exact ⟨rfl, rfl⟩

/-- What Read returns. -/
def Dk.readE (D : Dk) (off n : Int) : Int := if D.off then 91 else if insB D.dur.length off n then 0 else 90
def Dk.readS (D : Dk) (off n : Int) : List UInt8 := if D.off then [] else if insB D.dur.length off n then (D.vis.drop off.toNat).take n.toNat else []

theorem read_dk (b : Nat) (fp : List Nat) (D : Dk) (off n : Int) (w : World) (h : DkA w b fp D) (ho : -9223372036854775808 ≤ off) (ho2 : off ≤ 9223372036854775807) (hn : -9223372036854775808 ≤ n) (hn2 : n ≤ 9223372036854775807) :
    Calls Try.prog 14 #[.pointer (some ⟨b, 0, none⟩), .int .i64 off, .int .i64 n] w fun e w' => e = .returned (.tuple #[.string ⟨(D.readS off n).toArray⟩, .int .i64 (D.readE off n)]) ∧ w = w' := by
  obtain ⟨bd, bv, pv, h, rfl⟩ := h
  have hm := h.ok.max
  cases hoff : D.off with
  | true =>
    rw [show D.readS off n = [] by simp [Dk.readS, hoff], show D.readE off n = 91 by simp [Dk.readE, hoff]]
    exact read_off b off n w (by rw [cell_of_blk h.str]; simp [hoff])
  | false =>
    cases hi : insB D.dur.length off n with
    | false =>
      rw [show D.readS off n = [] by simp [Dk.readS, hi], show D.readE off n = 90 by simp [Dk.readE, hoff, hi]]
      exact read_out b bd _ off n w (by rw [cell_of_blk h.str]; simp [hoff]) (by rw [cell_of_blk h.str]; rfl) hm ho ho2 hn hn2 hi
    | true =>
      rw [show D.readS off n = (D.vis.drop off.toNat).take n.toNat by simp [Dk.readS, hoff, hi], show D.readE off n = 0 by simp [Dk.readE, hoff, hi]]
      simp only [insB, decide_eq_true_eq] at hi
      obtain ⟨o, rfl⟩ := Int.eq_ofNat_of_zero_le hi.1
      obtain ⟨k, rfl⟩ := Int.eq_ofNat_of_zero_le hi.2.1
      exact read_in b bd bv _ o k D.vis w (by rw [cell_of_blk h.str]; simp [hoff]) (by rw [cell_of_blk h.str]; rfl) (by rw [cell_of_blk h.str]; rfl) hm (by omega) h.vis h.ok.len

end Go.Proofs.Ytanjjgodlgmfcaa
