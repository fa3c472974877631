/-
  The reference's PutInt and PutString (lengths).
-/
import Derived.Test.YtbogljpafpkikaaGreatDoorQJA
namespace Go.Proofs.YtbogljpafpkikaaGreatDoor
open Go.RowKit Go.Lib

theorem zigzag01_c (n : Nat) (hn : n ≤ 4611686018427387903) (w : World) : Calls Tryz.prog 79 #[.int .i64 n] w fun e w' => e = .returned (.int .u64 (2 * n : Nat)) ∧ w = w' := by
  go_enter Tryz.func79, Tryz.ntmps79
  go_wp2_with fail
  go_ret
  exact ⟨by rw [show ((2 * n : Nat) : Int) = (n : Int) * 2 by omega]; rfl, rfl⟩

set_option maxRecDepth 100000 in
set_option maxHeartbeats 1000000 in
theorem putInt01_c (n : Nat) (hn : n ≤ 65536) (w : World) : Calls Tryz.prog 52 #[.int .i64 n] w fun e w' => e = .returned (.tuple #[.string (str (encZ (2 * n))), .int .i64 0]) ∧ Fr [] w w' := by
  have CZ := Lib.hid (zigzag01_c n (by omega) w)
  go_enter Tryz.func52, Tryz.ntmps52
  go_wp2_with fail
  refine CZ.out.mono ?_
  rintro e w1 ⟨rfl, rfl⟩
  clear CZ
  go_wp2_with fail
  go_loopw [4, 5] (fun zv ov wr => ∃ (z : Nat) (l : List UInt8), zv = .int .u64 z ∧ z ≤ 9223372036854775807 ∧ l.length ≤ 100 ∧ Hid (encZ (2 * n) = l ++ encZ z ∧ wr.ownsRow 0 5 1 ov l.length (byteCells l) ∧ (∀ g, ov.ownBlock = some g → w.heap.size ≤ g) ∧ Fr [] w wr)) (fun zv _ _ => (RowKit.intOf zv).toNat)
  case atStart => exact ⟨2 * n, [], rfl, by omega, by simp, Lib.hid ⟨rfl, World.ownsRow_nil _ _ _ _, (fun g hg => by cases hg), Fr.refl _ _⟩⟩
  case round =>
    obtain ⟨z, l, rfl, hz, hl, H⟩ := hrel
    obtain ⟨va, vp, rfl⟩ : ∃ va vp, u5 = .slice va l.length vp := by
      rcases H.out.2.1.2 with ⟨rfl, h0⟩ | ⟨g, cap, cur, rfl, _⟩
      · exact ⟨none, 0, by rw [h0]⟩
      · exact ⟨_, _, rfl⟩
    by_cases h128 : z < 128
    · go_wp2_with (first | ((with_reducible refine wpList_of_wp (o := ⟨some 29, _, _, _, _, _⟩) rfl (fun K hK => ?_)); apply stopD; case _other => exact trivial))
      (refine stopD ?_ ?_; rotate_left; exact trivial)
      have fa := Fr.alloc [] wr (.cells #[.int .u8 (z : Int)] 5)
      refine wp_append_src (.tmp 25) (.tmp 28) 39 5 (.int .u8 0) 1 1 rfl Tryz.underlying39 infoBy rfl (by decide) (.slice va l.length vp) l.length (byteCells l) rfl (row_fr H.out.2.1 fa (by simp)) (.slice (some ⟨wr.heap.size, 0, none⟩) 1 1) 1 [.int .u8 (z : Int)] rfl (src_one wr _ _) (by simp) (by simp [Value.oneCell']) (by omega) (by omega) ?_
      intro ga cap2 W4 r4 f4 o4
      have F4 : Fr [] w W4 := (H.out.2.2.2.trans fa).step f4 (fun i hi => .inr (H.out.2.2.1 i (by simpa using hi)))
      have hy : ∀ g, (Value.slice ga (l.length + 1) cap2).ownBlock = some g → w.heap.size ≤ g := fun g hg => by
        rcases o4 with h | h
        · exact H.out.2.2.1 g (h ▸ hg)
        · rw [hg] at h
          have := H.out.2.2.2.size
          simp at h; omega
      refine hK _ _ ?_
      clear hK K
      have e1 : byteCells l ++ [.int .u8 (z : Int)] = byteCells (l ++ [UInt8.ofNat z]) := by simp [byteCells]; omega
      rw [e1] at r4
      have sl4 := sl_of_row r4
      refine wpList_of_wp rfl (fun K hK => ?_)
      refine wp_sl_str (.tmp 29) rfl ga (l.length + 1) cap2 (l ++ [UInt8.ofNat z]) rfl sl4 (by omega) (by simp) ?_
      refine hK _ _ ?_
      clear hK K sl4 r4 f4 o4 fa
      have HE : Shut (str (encZ (2 * n)) = ⟨(l ++ [UInt8.ofNat z]).toArray⟩) := ⟨by rw [H.out.1, encZ_one h128]; rfl⟩
      have HF := Lib.hid F4
      clear F4 hy
      generalize (⟨(l ++ [UInt8.ofNat z]).toArray⟩ : ByteArray) = S at *
      go_wp2_with fail
      go_ret2
      exact ⟨by rw [HE.out]; rfl, HF.out⟩
    · go_wp2_with (first | ((with_reducible refine wpList_of_wp (o := ⟨some 22, _, _, _, _, _⟩) rfl (fun K hK => ?_)); apply stopD; case _other => exact trivial))
      (refine stopD ?_ ?_; rotate_left; exact trivial)
      have fa := Fr.alloc [] wr (.cells #[.int .u8 ((z : Int) % 128 + 128)] 5)
      refine wp_append_src (.tmp 16) (.tmp 21) 39 5 (.int .u8 0) 1 1 rfl Tryz.underlying39 infoBy rfl (by decide) (.slice va l.length vp) l.length (byteCells l) rfl (row_fr H.out.2.1 fa (by simp)) (.slice (some ⟨wr.heap.size, 0, none⟩) 1 1) 1 [.int .u8 ((z : Int) % 128 + 128)] rfl (src_one wr _ _) (by simp) (by simp [Value.oneCell']) (by omega) (by omega) ?_
      intro ga cap2 W4 r4 f4 o4
      have F4 : Fr [] w W4 := (H.out.2.2.2.trans fa).step f4 (fun i hi => .inr (H.out.2.2.1 i (by simpa using hi)))
      have hy : ∀ g, (Value.slice ga (l.length + 1) cap2).ownBlock = some g → w.heap.size ≤ g := fun g hg => by
        rcases o4 with h | h
        · exact H.out.2.2.1 g (h ▸ hg)
        · rw [hg] at h
          have := H.out.2.2.2.size
          simp at h; omega
      refine hK _ _ ?_
      clear hK K
      have e1 : byteCells l ++ [.int .u8 ((z : Int) % 128 + 128)] = byteCells (l ++ [UInt8.ofNat (z % 128 + 128)]) := by simp [byteCells]; omega
      rw [e1] at r4
      have H4 : Hid (encZ (2 * n) = (l ++ [UInt8.ofNat (z % 128 + 128)]) ++ encZ (z / 128) ∧ W4.ownsRow 0 5 1 (.slice ga (l.length + 1) cap2) (l ++ [UInt8.ofNat (z % 128 + 128)]).length (byteCells (l ++ [UInt8.ofNat (z % 128 + 128)])) ∧ (∀ g, (Value.slice ga (l.length + 1) cap2).ownBlock = some g → w.heap.size ≤ g) ∧ Fr [] w W4) := Lib.hid ⟨by rw [H.out.1, encZ_more h128]; simp, by simpa using r4, hy, F4⟩
      clear r4 f4 o4 fa F4 hy
      go_wp2_with fail
      go_roundw
      case rel => exact ⟨z / 128, _, by go_num, by omega, (by
        have h5 := congrArg List.length H4.out.1
        have h6 := (encZ_len (2 * n) (by omega)).1
        rw [List.length_append] at h5
        omega), H4⟩
      case measure => simp [RowKit.intOf]; omega

set_option maxRecDepth 100000 in
theorem putString01_c (s : ByteArray) (hs : s.size ≤ 65536) (w : World) : Calls Tryz.prog 66 #[.string s] w fun e w' => e = .returned (.tuple #[.string (str (putS s)), .int .i64 0]) ∧ Fr [] w w' := by
  have CP := Lib.hid (putInt01_c s.size hs w)
  have hb : decide ((65536 : Int) < (s.size : Int)) = false := by simp; omega
  have hl := (encZ_len (2 * s.size) (by omega)).1
  have HP : Shut (str (putS s) = str (encZ (2 * s.size)) ++ s) := ⟨by apply ByteArray.ext; simp [str, putS, bts]⟩
  have hsz : (str (encZ (2 * s.size))).size ≤ 3 := by rw [str_size]; exact hl
  generalize str (encZ (2 * s.size)) = q at *
  clear hl
  go_enter Tryz.func66, Tryz.ntmps66
  go_wp2_with fail
  refine CP.out.mono ?_
  rintro e w1 ⟨rfl, f1⟩
  have HF := Lib.hid f1
  clear f1 CP
  go_wp2_with fail
  go_ret2
  exact ⟨by rw [HP.out]; rfl, HF.out⟩

end Go.Proofs.YtbogljpafpkikaaGreatDoor
