/-
  wire: PutString, Int, String.
-/
import Derived.Test.YtbogljpafpkikaaGreatDoorQWA
import Derived.Laws.DeepNot64
namespace Go.Proofs.YtbogljpafpkikaaGreatDoor
open Go.RowKit Go.Lib

theorem str_app (l : List UInt8) (r : ByteArray) : str l ++ r = str (l ++ bts r) := by
  apply ByteArray.ext
  simp [str, bts]

set_option maxRecDepth 100000 in
theorem putStr_c (r : ByteArray) (hr : r.size ≤ 65536) (w : World) : Calls Tryz.prog 63 #[.string r] w fun e w' => e = .returned (.tuple #[.string (str (putS r)), .int .i64 0]) ∧ Fr [] w w' := by
  go_enter Tryz.func63, Tryz.ntmps63
  go_wp2_with fail
  refine (putInt_c r.size (by omega) _).mono ?_
  rintro e w1 ⟨rfl, f1⟩
  have F1 := Lib.hid f1
  have hz : (str (encZ (2 * r.size))).size ≤ 3 := (encZ_len (2 * r.size) (by omega)).1
  clear f1
  go_wp2_with fail
  go_ret2
  exact ⟨by rw [str_app]; rfl, F1.out⟩

/-- What Int returns. -/
def intV : Option (Int × Nat) → Value
  | none => .tuple #[.int .i64 0, .int .i64 0, .int .i64 10]
  | some (n, q) => .tuple #[.int .i64 n, .int .i64 q, .int .i64 0]
theorem pow7_le {k : Nat} (hk : k < 9) : 2 ^ (7 * k) ≤ 72057594037927936 := Nat.pow_le_pow_right (by omega) (by omega : 7 * k ≤ 56)
theorem and127b (b : Nat) (hb : b < 256) : bits .and .u8 (b : Int) 127 = ((b % 128 : Nat) : Int) := by
  have h := u8_and_nat b 127 hb (by omega)
  rw [show ((127 : Nat) : Int) = 127 from rfl] at h
  rw [h, show (127 : Nat) = 2 ^ 7 - 1 from rfl, Nat.and_two_pow_sub_one_eq_mod]
theorem group_bits (b k : Nat) (hb : b < 256) (hk : k < 9) : IntKind.u64.wrap (IntKind.u64.wrap (bits .and .u8 (b : Int) 127) * 2 ^ (7 * k)) = ((b % 128 * 2 ^ (7 * k) : Nat) : Int) := by
  have hp := pow7_le hk
  have h1 : b % 128 < 128 := Nat.mod_lt _ (by omega)
  have h2 : b % 128 * 2 ^ (7 * k) ≤ 127 * 72057594037927936 := Nat.mul_le_mul (by omega) hp
  have e : (2 : Int) ^ (7 * k) = ((2 ^ (7 * k) : Nat) : Int) := by rw [Int.natCast_pow]; rfl
  rw [and127b b hb, IntKind.wrap_u64, IntKind.wrap_u64, e]
  generalize 2 ^ (7 * k) = q at *
  have m1 : ((b % 128 : Nat) : Int) % 18446744073709551616 = ((b % 128 : Nat) : Int) := Int.emod_eq_of_lt (by omega) (by omega)
  rw [m1, ← Int.natCast_mul]
  exact Int.emod_eq_of_lt (by omega) (by omega)
theorem or_bits (c b k : Nat) (hc : c < 2 ^ (7 * k)) (hk : k < 9) : bits .or .u64 (c : Int) ((b % 128 * 2 ^ (7 * k) : Nat) : Int) = ((c + b % 128 * 2 ^ (7 * k) : Nat) : Int) := by
  have hp := pow7_le hk
  have h1 : b % 128 < 128 := Nat.mod_lt _ (by omega)
  have h2 : b % 128 * 2 ^ (7 * k) ≤ 127 * 72057594037927936 := Nat.mul_le_mul (by omega) hp
  have h := bits_or_u64_nat c (b % 128 * 2 ^ (7 * k)) (by omega) (by omega)
  rw [h]
  congr 1
  rw [Nat.mul_comm, Nat.or_comm, ← Nat.two_pow_add_eq_or_of_lt hc]
  omega
theorem sum_lt (c b k : Nat) (hc : c < 2 ^ (7 * k)) (hk : k < 9) : c + b % 128 * 2 ^ (7 * k) < 2 ^ (7 * (k + 1)) ∧ c + b % 128 * 2 ^ (7 * k) < 9223372036854775808 := by
  have hp := pow7_le hk
  have h1 : b % 128 ≤ 127 := by have := Nat.mod_lt b (show 0 < 128 by omega); omega
  have h2 : b % 128 * 2 ^ (7 * k) ≤ 127 * 2 ^ (7 * k) := Nat.mul_le_mul_right _ h1
  have h3 : 2 ^ (7 * (k + 1)) = 128 * 2 ^ (7 * k) := by rw [show 7 * (k + 1) = 7 * k + 7 by omega, Nat.pow_add]; omega
  omega
theorem w64_in (x : Int) (h : -9223372036854775808 ≤ x ∧ x ≤ 9223372036854775807) : wrap64 x = x := by
  unfold wrap64
  omega
theorem xor_swap64 (a b : Int) : bits .xor .i64 a b = bits .xor .i64 b a := by
  show IntKind.i64.wrap ((BitVec.ofInt 64 a ^^^ BitVec.ofInt 64 b).toNat : Int) = IntKind.i64.wrap ((BitVec.ofInt 64 b ^^^ BitVec.ofInt 64 a).toNat : Int)
  rw [BitVec.xor_comm]
theorem xor_zero64 (a : Nat) (ha : a < 9223372036854775808) : bits .xor .i64 (a : Int) 0 = (a : Int) := by
  show IntKind.i64.wrap ((BitVec.ofInt 64 (a : Int) ^^^ BitVec.ofInt 64 0).toNat : Int) = _
  have h1 : BitVec.ofInt 64 0 = 0#64 := by decide
  rw [h1, BitVec.xor_zero, ofInt_u64 a (by omega)]
  exact IntWalk.i64_in _ (by omega)
theorem unz_bits (z : Nat) (hz : z < 9223372036854775808) : bits .xor .i64 (wrap64 ((z : Int) / 2)) (wrap64 (-wrap64 (bits .and .u64 (z : Int) 1))) = unz z := by
  have h1 : bits .and .u64 (z : Int) 1 = ((z % 2 : Nat) : Int) := by
    have h := bits_and_u64_nat z 1 (by omega) (by omega)
    rw [show ((1 : Nat) : Int) = 1 from rfl] at h
    rw [h, show (1 : Nat) = 2 ^ 1 - 1 from rfl, Nat.and_two_pow_sub_one_eq_mod]
  have w1 : wrap64 ((z : Int) / 2) = ((z / 2 : Nat) : Int) := by
    rw [show (z : Int) / 2 = ((z / 2 : Nat) : Int) by omega]
    exact w64_in _ (by omega)
  rw [h1, w1]
  rcases Nat.mod_two_eq_zero_or_one z with h | h
  · rw [h]
    have e1 : wrap64 ((0 : Nat) : Int) = 0 := w64_in _ (by omega)
    have e2 : wrap64 (-0) = 0 := w64_in _ (by omega)
    rw [e1, e2, unz, if_pos h, xor_zero64 (z / 2) (by omega)]
  · rw [h]
    have e1 : wrap64 ((1 : Nat) : Int) = 1 := w64_in _ (by omega)
    have e2 : wrap64 (-1) = -1 := w64_in _ (by omega)
    rw [e1, e2, unz, if_neg (by omega), xor_swap64, i64_not (z / 2) (by omega)]
    omega

set_option maxRecDepth 100000 in
set_option maxHeartbeats 4000000 in
theorem int_c (s : ByteArray) (p : Nat) (hp : p ≤ s.size) (hs : s.size ≤ 4611686018427387903) (w : World) : Calls Tryz.prog 108 #[.string s, .int .i64 p] w fun e w' => w = w' ∧ e = .returned (intV (getI (bts s) p)) := by
  have hd0 : decide ((p : Int) < 0) = false := by simp
  have hd1 : decide (s.size < p) = false := by simpa using hp
  have hd2 : decide ((s.size : Int) < (p : Int)) = false := by simp; omega
  go_enter Tryz.func108, Tryz.ntmps108
  go_wp2_with fail
  clear hd0 hd1 hd2
  go_loopw [7, 19] (fun z i wr => ∃ k c : Nat, k ≤ 9 ∧ z = .int .u64 c ∧ i = .int .i64 k ∧ w = wr ∧ Shut (c < 2 ^ (7 * k)) ∧ Shut (getI (bts s) p = getGo (bts s) p (9 - k) k c)) (fun _ i _ => 9 - (RowKit.intOf i).toNat)
  case atStart => exact ⟨0, 0, by omega, rfl, rfl, rfl, ⟨by omega⟩, ⟨rfl⟩⟩
  case round =>
    obtain ⟨k, c, hk, rfl, rfl, rfl, HC, HG⟩ := hrel
    by_cases hlt : k < 9
    · by_cases hin : p + k < s.size
      · have hat : (bts s)[p + k]? = some s[p + k] := by
          rw [List.getElem?_eq_getElem (by exact hin)]; rfl
        have hG2 : getI (bts s) p = if 128 ≤ s[p + k].toNat then getGo (bts s) p (8 - k) (k + 1) (c + s[p + k].toNat % 128 * 2 ^ (7 * k)) else if (s[p + k].toNat = 0 ∧ 0 < k) ∨ unz (c + s[p + k].toNat % 128 * 2 ^ (7 * k)) < -4611686018427387903 then none else some (unz (c + s[p + k].toNat % 128 * 2 ^ (7 * k)), p + k + 1) := by
          rw [HG.out, show 9 - k = (8 - k) + 1 by omega, getGo_at _ _ _ _ _ hat]
        have hb : s[p + k].toNat < 256 := UInt8.toNat_lt _
        have HG2 : Shut _ := ⟨hG2⟩
        have hA := group_bits s[p + k].toNat k hb hlt
        have hB := or_bits c s[p + k].toNat k HC.out hlt
        have HS : Shut _ := ⟨sum_lt c s[p + k].toNat k HC.out hlt⟩
        clear hat hG2 HG
        have HX : Shut _ := ⟨unz_bits _ HS.out.2⟩
        generalize hz : c + s[p + k].toNat % 128 * 2 ^ (7 * k) = z at *
        generalize s[p + k].toNat % 128 * 2 ^ (7 * k) = y at *
        have hD := HX.out
        generalize hn : unz z = n at *
        clear hz hn HX
        by_cases hge : 128 ≤ s[p + k].toNat
        · have HR : Shut (getI (bts s) p = getGo (bts s) p (8 - k) (k + 1) z) := ⟨by rw [HG2.out, if_pos hge]⟩
          clear hD
          go_wp2_with fail
          go_roundw
          case rel => exact ⟨k + 1, z, by omega, rfl, by go_num, trivial, ⟨HS.out.1⟩, ⟨by rw [HR.out, show 9 - (k + 1) = 8 - k by omega]⟩⟩
          case measure => simp [RowKit.intOf]; omega
        · by_cases hbad : (s[p + k].toNat = 0 ∧ 0 < k) ∨ n < -4611686018427387903
          · have HR : Shut (getI (bts s) p = none) := ⟨by rw [HG2.out, if_neg hge, if_pos hbad]⟩
            go_wp2_with fail
            all_goals
              go_ret3
              exact ⟨rfl, by rw [HR.out]; rfl⟩
          · have HR : Shut (getI (bts s) p = some (n, p + k + 1)) := ⟨by rw [HG2.out, if_neg hge, if_neg hbad]⟩
            go_wp2_with fail
            all_goals
              go_ret3
              exact ⟨rfl, by rw [HR.out]; simp [intV] <;> omega⟩
      · have HR : Shut (getI (bts s) p = none) := ⟨by
          rw [HG.out, show 9 - k = (8 - k) + 1 by omega, getGo, List.getElem?_eq_none (by rw [bts_len]; omega)]⟩
        clear HG
        go_wp2_with fail
        go_ret3
        exact ⟨rfl, by rw [HR.out]; rfl⟩
    · have HR : Shut (getI (bts s) p = none) := ⟨by rw [HG.out, show 9 - k = 0 by omega, getGo]⟩
      clear HG
      go_wp2_with fail
      go_ret3
      exact ⟨rfl, by rw [HR.out]; rfl⟩

end Go.Proofs.YtbogljpafpkikaaGreatDoor
