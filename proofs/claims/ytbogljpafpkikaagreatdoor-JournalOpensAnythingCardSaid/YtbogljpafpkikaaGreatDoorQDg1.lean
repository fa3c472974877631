/-
  digest: rotations and mixed.
-/
import Derived.Test.YtbogljpafpkikaaGreatDoorQDgM
import Derived.Test.YtbogljpafpkikaaGreatDoorQBa
import Derived.Test.YtbogljpafpkikaaGreatDoorQRg0
import Derived.Test.YtbogljpafpkikaaGreatDoorRows
import Derived.Test.YtbogljpafpkikaaGreatDoorQStB
import Derived.ProofKit
namespace Go.Proofs.YtbogljpafpkikaaGreatDoor
open Go.RowKit Go.Lib

theorem rot_and : ∀ n : Fin 32, 1 ≤ n.val → bits .and .u64 (IntKind.u64.wrap (IntKind.i64.wrap (-(n.val : Int)))) 31 = ((32 - n.val : Nat) : Int) := by decide
theorem rot_sub (n : Nat) (h : 1 ≤ n ∧ n ≤ 31) : IntKind.u64.wrap (32 - ((32 - n : Nat) : Int)) = (n : Int) := by rw [IntKind.wrap_u64]; omega

set_option maxRecDepth 100000 in
theorem rotl_c (x : Int) (n : Nat) (hn : 1 ≤ n ∧ n ≤ 31) (w : World) : Calls Tryz.prog 146 #[.int .u32 x, .int .i64 (-(n : Int))] w fun e w' => e = .returned (.int .u32 (ror x n)) ∧ w = w' := by
  have e1 := rot_and ⟨n, by omega⟩ hn.1
  simp only at e1
  have e2 := rot_sub n hn
  have e3 : IntKind.i64.wrap (-(n : Int)) = -(n : Int) := IntWalk.i64_in _ (by omega)
  rw [e3] at e1
  have hs : 0 ≤ ((32 - n : Nat) : Int) := by omega
  have e4 : (min (((32 - n : Nat) : Int)).toNat 32) = 32 - n := by omega
  have e5 : (min ((n : Nat) : Int).toNat 32) = n := by omega
  clear e3
  go_enter Tryz.func146, Tryz.ntmps146
  go_wp2_with fail
  go_ret
  exact ⟨rfl, rfl⟩

set_option maxRecDepth 100000 in
theorem mixed_c (x : Int) (v : Value) (l : List Int) (w : World) (h : IntsAt w v l) (hl : ∀ n, n ∈ l → 1 ≤ n ∧ n ≤ 31) : Calls Tryz.prog 137 #[.int .u32 x, v] w fun e w' => e = .returned (.int .u32 (mix x l)) ∧ Fr [] w w' := by
  obtain ⟨a, p, rfl⟩ := h.val
  have hlen := h.len
  have H := Lib.hid h
  clear h
  go_enter Tryz.func137, Tryz.ntmps137
  go_wp2_with fail
  go_loopw [5, 10] (fun s i wr => ∃ k : Nat, k ≤ l.length ∧ i = .int .i64 k ∧ s = .int .u32 (mixGo x (l.take k) 0) ∧ Hid (Fr [] w wr)) (fun _ i _ => l.length - (intOf i).toNat)
  case atStart => exact ⟨0, Nat.zero_le _, rfl, rfl, Lib.hid (Fr.refl _ _)⟩
  case round =>
    obtain ⟨k, hk, rfl, rfl, HF⟩ := hrel
    by_cases hlt : k < l.length
    · obtain ⟨b, off, ha, hc⟩ := (H.out.same HF.out).at_ (by omega)
      subst ha
      have c0 : wr.cell? ⟨b, off + k, none⟩ = some (.int .i64 l[k]) := hc k _ (by simp [intC, hlt])
      have hn := hl l[k] (List.getElem_mem hlt)
      have HT : Hid (mixGo x (l.take (k + 1)) 0 = xorI (mixGo x (l.take k) 0) (ror x (l[k]).toNat)) := Lib.hid (by rw [List.take_succ_eq_append_getElem hlt, mixGo_snoc])
      generalize l[k] = n at *
      obtain ⟨m, rfl⟩ := Int.eq_ofNat_of_zero_le (show 0 ≤ n by omega)
      have CR := Lib.hid fun W => rotl_c x m ⟨by omega, by omega⟩ W
      clear hc
      go_wp2_with fail
      refine (CR.out _).mono ?_
      rintro e w0 ⟨rfl, rfl⟩
      clear c0 CR
      go_wp2_with fail
      go_roundw
      case rel => exact ⟨k + 1, by omega, by go_num, by rw [HT.out]; rfl, HF⟩
      case measure => simp [intOf]; omega
    · obtain rfl : k = l.length := by omega
      go_wp2_with fail
      go_ret
      exact ⟨by rw [List.take_length]; rfl, HF.out⟩

end Go.Proofs.YtbogljpafpkikaaGreatDoor
