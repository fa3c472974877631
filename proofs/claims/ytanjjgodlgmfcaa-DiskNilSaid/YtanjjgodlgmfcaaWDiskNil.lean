/-
  The walk of DiskNil.
-/
import Derived.Test.YtanjjgodlgmfcaaL9s
import Derived.Test.YtanjjgodlgmfcaaLawKit
namespace Go.Proofs.Ytanjjgodlgmfcaa
open Go.RowKit Go.Lib

set_option maxRecDepth 1000000 in
set_option maxHeartbeats 2000000 in
theorem diskNil_c (off n : Int) (s : ByteArray) (a : Option Addr) (len cap : Nat) (w : World) (hl : len ≤ cap) (_hc : cap ≤ 9223372036854775807) (hs : s.size ≤ 9223372036854775807) :
    Calls Try.prog 5 #[.int .i64 off, .int .i64 n, .string s, .slice a len cap] w fun e w' => e = .returned (.bool true) ∧ Below w.heap.size w w' := by
  have cS := Lib.hid (sane_c w)
  have cC : Hid (∀ w, Calls Try.prog 22 #[.string s, .int .i64 100] w fun e w' => e = .returned (.string (s.extract 0 (min s.size 100))) ∧ w = w') := Lib.hid fun w => cut_str s 100 w hs (by omega)
  generalize s.extract 0 (min s.size 100) = s2 at *
  have hmn : (min (len : Int) 100).toNat ≤ cap := by omega
  have hm0 : 0 ≤ min (len : Int) 100 := by omega
  have hm1 : min (len : Int) 100 ≤ cap := by omega
  go_enter Try.func5, Try.ntmps5
  go_wp2_with (first | (go_at_call 12; refine cS.out.mono ?_; rintro e w1 ⟨rfl, f1⟩) | (go_at_call 22; refine (cC.out _).mono ?_; rintro e w2 ⟨rfl, rfl⟩) | (go_at_call 14; refine (read_nil _ _ _).mono ?_; rintro e w2 ⟨rfl, rfl⟩) | (go_at_call 21; refine (write_nil _ _ _).mono ?_; rintro e w2 ⟨rfl, rfl⟩) | (go_at_call 23; refine (sync_nil _).mono ?_; rintro e w2 ⟨rfl, rfl⟩) | (go_at_call 24; refine (cut_nil _ _).mono ?_; rintro e w2 ⟨rfl, rfl⟩) | (go_at_call 25; refine (crash_nil _ _ _).mono ?_; rintro e w2 ⟨rfl, f2⟩) | (go_at_call 17; refine (pending_nil _).mono ?_; rintro e w3 ⟨rfl, rfl⟩) | (go_at_call 16; refine (size_nil _).mono ?_; rintro e w3 ⟨rfl, rfl⟩))
  all_goals
    go_ret
    exact ⟨rfl, (f1.trans f2).below⟩

set_option maxRecDepth 100000 in
theorem walk_DiskNil {H : Type} {enc : TypeId × Value → H} {base : Nat} (W : World) {v0 v1 v2 v3 : Value} {d0 d1 d2 d3 : DataW H} {p0 p1 p2 p3 : List MemPlace}
    (k0 : Value.okWide Try.prog W .any base 3 v0) (h0 : DataW.Trod enc Try.prog W 0 (fun _ => true) true 3 v0 d0 p0)
    (k1 : Value.okWide Try.prog W .any base 3 v1) (h1 : DataW.Trod enc Try.prog W 0 (fun _ => true) true 3 v1 d1 p1)
    (k2 : Value.okWide Try.prog W .any base 9 v2) (h2 : DataW.Trod enc Try.prog W 0 (fun _ => true) true 9 v2 d2 p2)
    (k3 : Value.okWide Try.prog W .any base 37 v3) (h3 : DataW.Trod enc Try.prog W 0 (fun _ => true) true 37 v3 d3 p3) :
    Calls Try.prog 5 #[v0, v1, v2, v3] W fun e W' => e = .returned (.bool true) ∧ Below W.heap.size W W' := by
  obtain ⟨a0, rfl, _, _⟩ := open_i64 Try.underlying3 k0 h0
  obtain ⟨a1, rfl, _, _⟩ := open_i64 Try.underlying3 k1 h1
  obtain ⟨s, rfl, hs⟩ := open_str Try.underlying9 k2 h2
  obtain ⟨a, cap, zs, rfl, hr⟩ := rowI_of_open Try.underlying37 Try.underlying3 (by kernel_rfl) k3 h3
  exact diskNil_c a0 a1 s a zs.length cap W hr.le hr.max hs

end Go.Proofs.Ytanjjgodlgmfcaa
