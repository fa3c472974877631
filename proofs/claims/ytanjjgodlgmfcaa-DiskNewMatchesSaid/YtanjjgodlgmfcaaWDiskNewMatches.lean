/-
  The walk of DiskNewMatches.
-/
import Derived.Test.YtanjjgodlgmfcaaL9s
import Derived.Test.YtanjjgodlgmfcaaLawKit
namespace Go.Proofs.Ytanjjgodlgmfcaa
open Go.RowKit Go.Lib

theorem read_new {n : Nat} {k : Int} (h0 : 0 ≤ k) (h : k < n) : (Dk.new n).readS k 1 = [0] ∧ (Dk.new n).readE k 1 = 0 := by
  have hi : insB (Dk.new n).dur.length k 1 = true := by simp [insB, Dk.new]; omega
  refine ⟨?_, ?_⟩
  · simp only [Dk.readS, hi, if_true]
    have : (Dk.new n).off = false := rfl
    rw [this]
    simp only [Bool.false_eq_true, if_false, Dk.new, List.drop_replicate, List.take_replicate]
    rw [show min (1 : Int).toNat (n - k.toNat) = 1 by simp; omega]
    rfl
  · unfold Dk.readE; rw [hi]; rfl

set_option maxRecDepth 1000000 in
set_option maxHeartbeats 2000000 in
theorem newMatches_c (size at_ : Int) (w : World) (h1 : -9223372036854775808 ≤ size) (h2 : size ≤ 9223372036854775807) (h3 : -9223372036854775808 ≤ at_) (h4 : at_ ≤ 9223372036854775807) :
    Calls Try.prog 3 #[.int .i64 size, .int .i64 at_] w fun e w' => e = .returned (.bool true) ∧ Below w.heap.size w w' := by
  by_cases hb : size < 1 ∨ 4194304 < size
  · have cS := Lib.hid (sane_c w)
    have cN := Lib.hid (fun w => new_bad size w hb)
    rcases hb with hb | hb
    · go_enter Try.func3, Try.ntmps3
      go_wp2_with (first | (go_at_call 12; refine cS.out.mono ?_; rintro e w1 ⟨rfl, f1⟩) | (go_at_call 13; refine (cN.out _).mono ?_; rintro e w2 ⟨rfl, rfl⟩))
      go_ret
      exact ⟨rfl, f1.below⟩
    · have hd : decide (size < 1) = false := by simp; omega
      go_enter Try.func3, Try.ntmps3
      go_wp2_with (first | (go_at_call 12; refine cS.out.mono ?_; rintro e w1 ⟨rfl, f1⟩) | (go_at_call 13; refine (cN.out _).mono ?_; rintro e w2 ⟨rfl, rfl⟩))
      go_ret
      exact ⟨rfl, f1.below⟩
  · obtain ⟨n, rfl⟩ := Int.eq_ofNat_of_zero_le (show 0 ≤ size by omega)
    have cS := Lib.hid (sane_c w)
    have cN := Lib.hid (fun w => new_own n w (by omega) (by omega))
    have hd : decide ((n : Int) < 1) = false := by simp; omega
    have hd2 : decide ((4194304 : Int) < n) = false := by simp; omega
    have cP := Lib.hid (fun w => pick_any at_ n w h3 h4 (by omega) h2)
    have hpk := pickI_bound at_ n (by omega)
    generalize pickI at_ n = k at *
    have hr := read_new hpk.1 hpk.2
    have HR := Lib.hid hr; clear hr hb
    go_enter Try.func3, Try.ntmps3
    go_wp2_with (first | (go_at_call 12; refine cS.out.mono ?_; rintro e w1 ⟨rfl, f1⟩) | (go_at_call 13; refine (cN.out _).mono ?_; rintro e w2 ⟨b, fp, rfl, o1⟩; have O1 := Lib.hid o1; clear o1) | (go_at_call 15; refine (cP.out _).mono ?_; rintro e w3 ⟨rfl, rfl⟩))
    have cR := read_own O1.out k 1 (by omega) (by omega) (by omega) (by omega)
    rw [HR.out.1, HR.out.2] at cR
    have cZ := size_own O1.out
    rw [show (Dk.new n).dur.length = n by simp [Dk.new]] at cZ
    have cP2 : Calls Try.prog 17 #[.pointer (some ⟨b, 0, none⟩)] w2 fun e w' => e = .returned (.int .i64 0) ∧ w2 = w' := pending_own O1.out
    have CR := Lib.hid cR; have CZ := Lib.hid cZ; have CP2 := Lib.hid cP2; clear cR cZ cP2
    go_wp2_with (first | (go_at_call 14; refine CR.out.mono ?_; rintro e w3 ⟨rfl, rfl⟩) | (go_at_call 16; refine CZ.out.mono ?_; rintro e w3 ⟨rfl, rfl⟩) | (go_at_call 17; refine CP2.out.mono ?_; rintro e w3 ⟨rfl, rfl⟩))
    go_ret
    exact ⟨rfl, (f1.trans O1.out.fr).below⟩

set_option maxRecDepth 100000 in
theorem walk_DiskNewMatches {H : Type} {enc : TypeId × Value → H} {base : Nat} (W : World) {v0 v1 : Value} {d0 d1 : DataW H} {p0 p1 : List MemPlace}
    (k0 : Value.okWide Try.prog W .any base 3 v0) (h0 : DataW.Trod enc Try.prog W 0 (fun _ => true) true 3 v0 d0 p0)
    (k1 : Value.okWide Try.prog W .any base 3 v1) (h1 : DataW.Trod enc Try.prog W 0 (fun _ => true) true 3 v1 d1 p1) :
    Calls Try.prog 3 #[v0, v1] W fun e W' => e = .returned (.bool true) ∧ Below W.heap.size W W' := by
  obtain ⟨a0, rfl, l0, u0⟩ := open_i64 Try.underlying3 k0 h0
  obtain ⟨a1, rfl, l1, u1⟩ := open_i64 Try.underlying3 k1 h1
  exact newMatches_c a0 a1 W l0 u0 l1 u1

end Go.Proofs.Ytanjjgodlgmfcaa
