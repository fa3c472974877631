/-
  The reference's Int and String: what they read is what the model reads.
-/
import Derived.Test.YtbogljpafpkikaaGreatDoorQL10q
import Derived.Test.YtbogljpafpkikaaGreatDoorQL10d
import Derived.Test.YtbogljpafpkikaaGreatDoorQWi4
import Derived.Test.YtbogljpafpkikaaGreatDoorQR2c
import Derived.Test.YtbogljpafpkikaaGreatDoorQDkC
import Derived.Test.YtbogljpafpkikaaGreatDoorQBa
import Derived.Test.YtbogljpafpkikaaGreatDoorQLw
import Derived.Deep.RegionHeld3
namespace Go.Proofs.YtbogljpafpkikaaGreatDoor
open Go.RowKit Go.Lib

/-! ### Numbers as they are stored -/
def zigI (n : Int) : Int := if n < 0 then -n * 2 - 1 else n * 2
theorem encZ_le : ∀ (k z : Nat), z < 2 ^ (7 * (k + 1)) → (encZ z).length ≤ k + 1
  | 0, z, h => by rw [encZ_one (by simpa using h)]; simp
  | k + 1, z, h => by
    by_cases h1 : z < 128
    · rw [encZ_one h1]; simp
    · rw [encZ_more h1, List.length_cons]
      have h2 : z / 128 < 2 ^ (7 * (k + 1)) := by
        rw [Nat.div_lt_iff_lt_mul (by omega), show (128 : Nat) = 2 ^ 7 from rfl, ← Nat.pow_add]
        exact h
      have := encZ_le k (z / 128) h2
      omega
theorem encZ_len9 {z : Nat} (h : z ≤ 9223372036854775807) : (encZ z).length ≤ 9 := encZ_le 8 z (by omega)
theorem unz_zig (z : Nat) : zigI (unz z) = z := by
  simp only [zigI, unz]
  split <;> split <;> omega
theorem unz_range {z : Nat} (h : z ≤ 9223372036854775807) : -4611686018427387904 ≤ unz z ∧ unz z ≤ 4611686018427387903 := by
  simp only [unz]
  split <;> omega
theorem zigzagI_c (n : Int) (hn : -4611686018427387904 ≤ n ∧ n ≤ 4611686018427387903) (w : World) : Calls Tryz.prog 79 #[.int .i64 n] w fun e w' => e = .returned (.int .u64 (zigI n)) ∧ w = w' := by
  by_cases h : n < 0
  · have hz : zigI n = -n * 2 - 1 := by simp [zigI, h]
    rw [hz]
    go_enter Tryz.func79, Tryz.ntmps79
    go_wp2_with fail
    go_ret
    exact ⟨rfl, rfl⟩
  · have hz : zigI n = n * 2 := by simp [zigI, h]
    rw [hz]
    go_enter Tryz.func79, Tryz.ntmps79
    go_wp2_with fail
    go_ret
    exact ⟨rfl, rfl⟩

set_option maxRecDepth 100000 in
set_option maxHeartbeats 1000000 in
theorem putIntZ_c (n : Int) (Z : Nat) (hZ : Z ≤ 9223372036854775807) (hn : unz Z = n) (hb : ¬ n < -4611686018427387903) (w : World) : Calls Tryz.prog 52 #[.int .i64 n] w fun e w' => e = .returned (.tuple #[.string (str (encZ Z)), .int .i64 0]) ∧ Fr [] w w' := by
  have hr := unz_range hZ
  have hz := unz_zig Z
  rw [hn] at hr hz
  have CZ' := zigzagI_c n hr w
  rw [hz] at CZ'
  have CZ := Lib.hid CZ'
  clear hz CZ' hn
  go_enter Tryz.func52, Tryz.ntmps52
  go_wp2_with fail
  refine CZ.out.mono ?_
  rintro e w1 ⟨rfl, rfl⟩
  clear CZ
  go_wp2_with fail
  go_loopw [4, 5] (fun zv ov wr => ∃ (z : Nat) (l : List UInt8), zv = .int .u64 z ∧ z ≤ 9223372036854775807 ∧ l.length ≤ 100 ∧ Hid (encZ Z = l ++ encZ z ∧ wr.ownsRow 0 5 1 ov l.length (byteCells l) ∧ (∀ g, ov.ownBlock = some g → w.heap.size ≤ g) ∧ Fr [] w wr)) (fun zv _ _ => (RowKit.intOf zv).toNat)
  case atStart => exact ⟨Z, [], rfl, by omega, by simp, Lib.hid ⟨rfl, World.ownsRow_nil _ _ _ _, (fun g hg => by cases hg), Fr.refl _ _⟩⟩
  case round =>
    obtain ⟨z, l, rfl, hz, hl, H⟩ := hrel
    obtain ⟨va, vp, rfl⟩ : ∃ va vp, u5 = .slice va l.length vp := by
      rcases H.out.2.1.2 with ⟨rfl, h0⟩ | ⟨g, cap, cur, rfl, _⟩
      · exact ⟨none, 0, by rw [h0]⟩
      · exact ⟨_, _, rfl⟩
    by_cases h128 : z < 128
    · go_wp2_with (first | ((with_reducible refine wpList_of_wp (o := ⟨some 29, _, _, _, _, _⟩) rfl (fun K hK => ?_)); apply stopD; case _other => exact trivial))
      (refine stopD ?_ ?_; rotate_left; exact trivial)
      have fa := Fr.alloc [] wr (.cells #[.int .u8 (z : Int)] 5)
      refine wp_append_src (.tmp 25) (.tmp 28) 39 5 (.int .u8 0) 1 1 rfl Tryz.underlying39 infoBy rfl (by decide) (.slice va l.length vp) l.length (byteCells l) rfl (row_fr H.out.2.1 fa (by simp)) (.slice (some ⟨wr.heap.size, 0, none⟩) 1 1) 1 [.int .u8 (z : Int)] rfl (src_one wr _ _) (by simp) (by simp [Value.oneCell']) (by omega) (by omega) ?_
      intro ga cap2 W4 r4 f4 o4
      have F4 : Fr [] w W4 := (H.out.2.2.2.trans fa).step f4 (fun i hi => .inr (H.out.2.2.1 i (by simpa using hi)))
      have hy : ∀ g, (Value.slice ga (l.length + 1) cap2).ownBlock = some g → w.heap.size ≤ g := fun g hg => by
        rcases o4 with h | h
        · exact H.out.2.2.1 g (h ▸ hg)
        · rw [hg] at h
          have := H.out.2.2.2.size
          simp at h; omega
      refine hK _ _ ?_
      clear hK K
      have e1 : byteCells l ++ [.int .u8 (z : Int)] = byteCells (l ++ [UInt8.ofNat z]) := by simp [byteCells]; omega
      rw [e1] at r4
      have sl4 := sl_of_row r4
      refine wpList_of_wp rfl (fun K hK => ?_)
      refine wp_sl_str (.tmp 29) rfl ga (l.length + 1) cap2 (l ++ [UInt8.ofNat z]) rfl sl4 (by omega) (by simp) ?_
      refine hK _ _ ?_
      clear hK K sl4 r4 f4 o4 fa
      have HE : Shut (str (encZ Z) = ⟨(l ++ [UInt8.ofNat z]).toArray⟩) := ⟨by rw [H.out.1, encZ_one h128]; rfl⟩
      have HF := Lib.hid F4
      clear F4 hy
      generalize (⟨(l ++ [UInt8.ofNat z]).toArray⟩ : ByteArray) = S at *
      go_wp2_with fail
      go_ret2
      exact ⟨by rw [HE.out]; rfl, HF.out⟩
    · go_wp2_with (first | ((with_reducible refine wpList_of_wp (o := ⟨some 22, _, _, _, _, _⟩) rfl (fun K hK => ?_)); apply stopD; case _other => exact trivial))
      (refine stopD ?_ ?_; rotate_left; exact trivial)
      have fa := Fr.alloc [] wr (.cells #[.int .u8 ((z : Int) % 128 + 128)] 5)
      refine wp_append_src (.tmp 16) (.tmp 21) 39 5 (.int .u8 0) 1 1 rfl Tryz.underlying39 infoBy rfl (by decide) (.slice va l.length vp) l.length (byteCells l) rfl (row_fr H.out.2.1 fa (by simp)) (.slice (some ⟨wr.heap.size, 0, none⟩) 1 1) 1 [.int .u8 ((z : Int) % 128 + 128)] rfl (src_one wr _ _) (by simp) (by simp [Value.oneCell']) (by omega) (by omega) ?_
      intro ga cap2 W4 r4 f4 o4
      have F4 : Fr [] w W4 := (H.out.2.2.2.trans fa).step f4 (fun i hi => .inr (H.out.2.2.1 i (by simpa using hi)))
      have hy : ∀ g, (Value.slice ga (l.length + 1) cap2).ownBlock = some g → w.heap.size ≤ g := fun g hg => by
        rcases o4 with h | h
        · exact H.out.2.2.1 g (h ▸ hg)
        · rw [hg] at h
          have := H.out.2.2.2.size
          simp at h; omega
      refine hK _ _ ?_
      clear hK K
      have e1 : byteCells l ++ [.int .u8 ((z : Int) % 128 + 128)] = byteCells (l ++ [UInt8.ofNat (z % 128 + 128)]) := by simp [byteCells]; omega
      rw [e1] at r4
      have H4 : Hid (encZ Z = (l ++ [UInt8.ofNat (z % 128 + 128)]) ++ encZ (z / 128) ∧ W4.ownsRow 0 5 1 (.slice ga (l.length + 1) cap2) (l ++ [UInt8.ofNat (z % 128 + 128)]).length (byteCells (l ++ [UInt8.ofNat (z % 128 + 128)])) ∧ (∀ g, (Value.slice ga (l.length + 1) cap2).ownBlock = some g → w.heap.size ≤ g) ∧ Fr [] w W4) := Lib.hid ⟨by rw [H.out.1, encZ_more h128]; simp, by simpa using r4, hy, F4⟩
      clear r4 f4 o4 fa F4 hy
      go_wp2_with fail
      go_roundw
      case rel => exact ⟨z / 128, _, by go_num, by omega, (by
        have h5 := congrArg List.length H4.out.1
        have h6 := encZ_len9 hZ
        rw [List.length_append] at h5
        omega), H4⟩
      case measure => simp [RowKit.intOf]; omega

theorem putIntBad_c (n : Int) (hb : n < -4611686018427387903) (_h0 : -4611686018427387904 ≤ n) (w : World) : Calls Tryz.prog 52 #[.int .i64 n] w fun e w' => e = .returned (.tuple #[.string ⟨#[]⟩, .int .i64 10]) ∧ Fr [] w w' := by
  go_enter Tryz.func52, Tryz.ntmps52
  go_wp2_with fail
  go_ret2
  exact ⟨rfl, Fr.refl _ _⟩

/-! ### What is read is what was stored -/
/-- The number of bytes that follow each other, the last of which is less than 128. -/
def valD : List UInt8 → Nat
  | [] => 0
  | b :: l => b.toNat % 128 + 128 * valD l
theorem valD_snoc (l : List UInt8) (b : UInt8) : valD (l ++ [b]) = valD l + b.toNat % 128 * 2 ^ (7 * l.length) := by
  induction l with
  | nil => simp [valD]
  | cons x l ih =>
    rw [List.cons_append, valD, ih, valD, List.length_cons, Nat.mul_add, show 7 * (l.length + 1) = 7 * l.length + 7 by omega, Nat.pow_add]
    have : b.toNat % 128 * (2 ^ (7 * l.length) * 2 ^ 7) = 128 * (b.toNat % 128 * 2 ^ (7 * l.length)) := by
      rw [show (2 : Nat) ^ 7 = 128 from rfl, Nat.mul_comm (2 ^ (7 * l.length)) 128, ← Nat.mul_assoc, Nat.mul_comm (b.toNat % 128) 128, Nat.mul_assoc]
    omega
theorem u8_of_nat (b : UInt8) : UInt8.ofNat b.toNat = b := by simp
theorem encZ_valD : ∀ (l : List UInt8) (b : UInt8), (∀ x, x ∈ l → 128 ≤ x.toNat) → b.toNat < 128 → (l = [] ∨ b.toNat ≠ 0) → encZ (valD (l ++ [b])) = l ++ [b]
  | [], b, _, hb, _ => by
    have : valD [b] = b.toNat := by simp [valD]; omega
    rw [List.nil_append, this, encZ_one hb, u8_of_nat]
  | x :: l, b, hl, hb, h0 => by
    have h0' : b.toNat ≠ 0 := by
      rcases h0 with h | h
      · cases h
      · exact h
    have hx := hl x (by simp)
    have hxb : x.toNat < 256 := UInt8.toNat_lt _
    have ih := encZ_valD l b (fun y hy => hl y (by simp [hy])) hb (.inr h0')
    have hpos : 0 < valD (l ++ [b]) := by
      rw [valD_snoc]
      have : 0 < b.toNat % 128 * 2 ^ (7 * l.length) := Nat.mul_pos (by omega) (Nat.two_pow_pos _)
      omega
    have hv : valD (x :: l ++ [b]) = x.toNat % 128 + 128 * valD (l ++ [b]) := rfl
    rw [hv, encZ_more (by omega), show (x.toNat % 128 + 128 * valD (l ++ [b])) % 128 + 128 = x.toNat by omega, show (x.toNat % 128 + 128 * valD (l ++ [b])) / 128 = valD (l ++ [b]) by omega, ih, u8_of_nat]
    rfl
theorem encZ_last : ∀ (z : Nat) (l : List UInt8) (b : UInt8), l ≠ [] → encZ z = l ++ [b] → b.toNat ≠ 0 := by
  intro z
  induction z using Nat.strongRecOn with
  | _ z ih =>
    intro l b hl h
    by_cases h1 : z < 128
    · rw [encZ_one h1] at h
      have := congrArg List.length h
      simp only [List.length_cons, List.length_nil, List.length_append] at this
      exact absurd (List.eq_nil_of_length_eq_zero (by omega)) hl
    · rw [encZ_more h1] at h
      cases l with
      | nil => exact absurd rfl hl
      | cons x l =>
        simp only [List.cons_append, List.cons.injEq] at h
        by_cases hl2 : l = []
        · subst hl2
          have h2 := h.2
          rw [List.nil_append] at h2
          by_cases h3 : z / 128 < 128
          · rw [encZ_one h3] at h2
            simp only [List.cons.injEq, and_true] at h2
            rw [← h2]
            simp only [UInt8.toNat_ofNat']
            omega
          · rw [encZ_more h3] at h2
            have := (encZ_le 200 (z / 128 / 128))
            simp only [List.cons.injEq] at h2
            have h4 := h2.2
            have : 1 ≤ (encZ (z / 128 / 128)).length := by
              by_cases h5 : z / 128 / 128 < 128
              · rw [encZ_one h5]; simp
              · rw [encZ_more h5]; simp
            rw [h4] at this
            simp at this
        · exact ih (z / 128) (by omega) l b hl2 h.2

end Go.Proofs.YtbogljpafpkikaaGreatDoor

/-
  The reference's Int and String.
-/
namespace Go.Proofs.YtbogljpafpkikaaGreatDoor
open Go.RowKit Go.Lib

/-- What Int returns. -/
def intR : Option (Int × Nat) → Value
  | none => .tuple #[.int .i64 0, .int .i64 0, .int .i64 10]
  | some (n, q) => .tuple #[.int .i64 n, .int .i64 q, .int .i64 0]
theorem strs_ne2 {s t : ByteArray} (h : s ≠ t) : (s.toList == t.toList) = false := by
  rw [beq_eq_false_iff_ne, ByteArray.toList_eq, ByteArray.toList_eq]
  intro e; apply h; exact ByteArray.ext (Array.ext' e)
theorem drop_take_snoc {s : List UInt8} {p k : Nat} {b : UInt8} (h : s[p + k]? = some b) : (s.drop p).take (k + 1) = (s.drop p).take k ++ [b] := by
  have hl : k < (s.drop p).length := by
    have := (List.getElem?_eq_some_iff.1 h).1
    rw [List.length_drop]; omega
  rw [List.take_succ_eq_append_getElem hl]
  congr 2
  rw [List.getElem_drop]
  exact (List.getElem?_eq_some_iff.1 h).2

set_option maxRecDepth 100000 in
set_option maxHeartbeats 4000000 in
theorem rInt_c (s : ByteArray) (p : Nat) (hp : p ≤ s.size) (hs : s.size ≤ 4611686018427387903) (w : World) : Calls Tryz.prog 91 #[.string s, .int .i64 p] w fun e w' => Fr [] w w' ∧ e = .returned (intR (getI (bts s) p)) := by
  have hd0 : decide ((p : Int) < 0) = false := by simp
  have hd1 : decide (s.size < p) = false := by simpa using hp
  have hd2 : decide ((s.size : Int) < (p : Int)) = false := by simp; omega
  go_enter Tryz.func91, Tryz.ntmps91
  go_wp2_with fail
  clear hd0 hd1 hd2
  go_loopw [7, 8] (fun z i wr => ∃ k c : Nat, k ≤ 9 ∧ z = .int .u64 c ∧ i = .int .i64 k ∧ w = wr ∧ p + k ≤ s.size ∧ Shut (c < 2 ^ (7 * k)) ∧ Shut (getI (bts s) p = getGo (bts s) p (9 - k) k c) ∧ Shut (c = valD (((bts s).drop p).take k)) ∧ Shut (∀ x, x ∈ ((bts s).drop p).take k → 128 ≤ x.toNat)) (fun _ i _ => 9 - (RowKit.intOf i).toNat)
  case atStart => exact ⟨0, 0, by omega, rfl, rfl, rfl, by omega, ⟨by omega⟩, ⟨rfl⟩, ⟨rfl⟩, ⟨by simp⟩⟩
  case round =>
    obtain ⟨k, c, hk, rfl, rfl, rfl, hpk, HC, HG, HV, HM⟩ := hrel
    by_cases hlt : k < 9
    · by_cases hin : p + k < s.size
      · have hat : (bts s)[p + k]? = some s[p + k] := by
          rw [List.getElem?_eq_getElem (by exact hin)]; rfl
        have hG2 : getI (bts s) p = if 128 ≤ s[p + k].toNat then getGo (bts s) p (8 - k) (k + 1) (c + s[p + k].toNat % 128 * 2 ^ (7 * k)) else if (s[p + k].toNat = 0 ∧ 0 < k) ∨ unz (c + s[p + k].toNat % 128 * 2 ^ (7 * k)) < -4611686018427387903 then none else some (unz (c + s[p + k].toNat % 128 * 2 ^ (7 * k)), p + k + 1) := by
          rw [HG.out, show 9 - k = (8 - k) + 1 by omega, getGo_at _ _ _ _ _ hat]
        have hb : s[p + k].toNat < 256 := UInt8.toNat_lt _
        have HG2 : Shut _ := ⟨hG2⟩
        have HS : Shut _ := ⟨sum_lt c s[p + k].toNat k HC.out hlt⟩
        have HT : Shut (((bts s).drop p).take (k + 1) = ((bts s).drop p).take k ++ [s[p + k]]) := ⟨drop_take_snoc hat⟩
        have hkl : (((bts s).drop p).take k).length = k := by rw [List.length_take, List.length_drop, bts_len]; omega
        have HV2 : Shut (c + s[p + k].toNat % 128 * 2 ^ (7 * k) = valD (((bts s).drop p).take (k + 1))) := ⟨by rw [HT.out, valD_snoc, hkl, ← HV.out]⟩
        have HKl : Shut ((((bts s).drop p).take k).length = k) := ⟨hkl⟩
        have hW : IntKind.u64.wrap ((c : Int) + IntKind.u64.wrap ((s[p + k].toNat : Int) % 128 * 2 ^ (7 * k))) = ((c + s[p + k].toNat % 128 * 2 ^ (7 * k) : Nat) : Int) := by
          have h1 := HS.out.2
          have h2 : ((s[p + k].toNat : Int) % 128 * 2 ^ (7 * k)) = ((s[p + k].toNat % 128 * 2 ^ (7 * k) : Nat) : Int) := by
            rw [Int.natCast_mul, Int.natCast_pow]; rfl
          rw [h2]
          generalize s[p + k].toNat % 128 * 2 ^ (7 * k) = y at *
          simp only [IntKind.wrap_u64]
          omega
        clear hat hG2 HG hkl
        generalize hz : c + s[p + k].toNat % 128 * 2 ^ (7 * k) = z at *
        clear hz
        have hz63 : z < 9223372036854775808 := HS.out.2
        by_cases hge : 128 ≤ s[p + k].toNat
        · have HR : Shut (getI (bts s) p = getGo (bts s) p (8 - k) (k + 1) z) := ⟨by rw [HG2.out, if_pos hge]⟩
          have HM2 : Shut (∀ x, x ∈ ((bts s).drop p).take (k + 1) → 128 ≤ x.toNat) := ⟨fun x hx => by
            rw [HT.out] at hx
            rcases List.mem_append.1 hx with h | h
            · exact HM.out x h
            · rw [List.mem_singleton] at h
              rw [h]; exact hge⟩
          go_wp2_with fail
          go_roundw
          case rel => exact ⟨k + 1, z, by omega, rfl, by go_num, trivial, by omega, ⟨HS.out.1⟩, ⟨by rw [HR.out, show 9 - (k + 1) = 8 - k by omega]⟩, HV2, HM2⟩
          case measure => simp [RowKit.intOf]; omega
        · have HVal : Shut (∀ x, s[p + k].toNat = 0 ∧ 0 < k → encZ z = x → x ≠ ((bts s).drop p).take (k + 1)) := ⟨fun x h0 hx e => by
            rw [← hx, HT.out] at e
            exact encZ_last z _ _ (by intro e2; rw [e2] at HKl; have := HKl.out; simp at this; omega) e h0.1⟩
          have HVal2 : Shut (¬ (s[p + k].toNat = 0 ∧ 0 < k) → encZ z = ((bts s).drop p).take (k + 1)) := ⟨fun h0 => by
            rw [HV2.out, HT.out]
            refine encZ_valD _ _ HM.out (by omega) ?_
            by_cases hk0 : k = 0
            · left; exact List.eq_nil_of_length_eq_zero (by rw [HKl.out, hk0])
            · right; intro e; exact h0 ⟨e, by omega⟩⟩
          by_cases hpar : z % 2 = 1
          · have hpI : ((z : Int) % 2 == 1) = true := by rw [beq_iff_eq]; omega
            have hn : unz z = -((z : Int) / 2) - 1 := by unfold unz; rw [if_neg (by omega)]; omega
            have hnr := unz_range (z := z) (by omega)
            have HG3 := HG2
            by_cases hbig : -((z : Int) / 2) - 1 < -4611686018427387903
            · have HR : Shut (getI (bts s) p = none) := ⟨by rw [HG2.out, if_neg hge, if_pos (.inr (by rw [hn]; exact hbig))]⟩
              have CP := Lib.hid (putIntBad_c (-((z : Int) / 2) - 1) hbig (by omega) w)
              clear hn hnr HG3
              go_wp2_with fail
              clear hpI hW
              refine CP.out.mono ?_
              rintro e w1 ⟨rfl, f1⟩
              have HF := Lib.hid f1
              clear f1 CP
              go_wp2_with fail
              all_goals
                go_ret3
                exact ⟨HF.out, by rw [HR.out]; rfl⟩
            · have CP := Lib.hid (putIntZ_c (-((z : Int) / 2) - 1) z (by omega) hn hbig w)
              have HN := Lib.hid hn
              clear hnr hn HG3
              have HX : Shut (s.extract p (p + k + 1) = str (((bts s).drop p).take (k + 1))) := ⟨by rw [extract_str]; congr 2; omega⟩
              have HSt : Shut (str (encZ z) = str (encZ z)) := ⟨rfl⟩
              by_cases h0 : s[p + k].toNat = 0 ∧ 0 < k
              · have HR : Shut (getI (bts s) p = none) := ⟨by rw [HG2.out, if_neg hge, if_pos (.inl h0)]⟩
                have hne : (!(str (encZ z)).toList == (s.extract p (p + k + 1)).toList) = true := by
                  rw [strs_ne2 (fun e => HVal.out _ h0 rfl (by
                    have := congrArg bts (e.trans HX.out)
                    simpa only [bts_str] using this))]
                  rfl
                generalize str (encZ z) = T at *
                clear h0
                go_wp2_with fail
                clear hpI hW
                refine CP.out.mono ?_
                rintro e w1 ⟨rfl, f1⟩
                have HF := Lib.hid f1
                clear f1 CP
                have hxp : p + k + 1 ≤ s.size := by omega
                have htn : ((p : Int) + (k : Int) + 1).toNat = p + k + 1 := by omega
                go_wp2_with fail
                all_goals
                  go_ret3
                  exact ⟨HF.out, by rw [HR.out]; rfl⟩
              · have HR : Shut (getI (bts s) p = some (-((z : Int) / 2) - 1, p + k + 1)) := ⟨by
                  rw [HG2.out, if_neg hge, if_neg (fun h => by
                    rcases h with h | h
                    · exact h0 h
                    · rw [HN.out] at h; exact hbig h), HN.out]⟩
                have hne : (!(str (encZ z)).toList == (s.extract p (p + k + 1)).toList) = false := by
                  rw [HX.out, HVal2.out h0, beq_self_eq_true]
                  rfl
                generalize str (encZ z) = T at *
                clear h0
                go_wp2_with fail
                clear hpI hW
                refine CP.out.mono ?_
                rintro e w1 ⟨rfl, f1⟩
                have HF := Lib.hid f1
                clear f1 CP
                have hxp : p + k + 1 ≤ s.size := by omega
                have htn : ((p : Int) + (k : Int) + 1).toNat = p + k + 1 := by omega
                go_wp2_with fail
                all_goals
                  go_ret3
                  exact ⟨HF.out, by rw [HR.out]; rfl⟩
          · have hpI : ((z : Int) % 2 == 1) = false := by rw [beq_eq_false_iff_ne]; omega
            have hn : unz z = (z : Int) / 2 := by unfold unz; rw [if_pos (by omega)]; first | done | omega
            have hnr := unz_range (z := z) (by omega)
            have HG3 := HG2
            by_cases hbig : (z : Int) / 2 < -4611686018427387903
            · exact absurd hbig (by omega)
            · have CP := Lib.hid (putIntZ_c ((z : Int) / 2) z (by omega) hn hbig w)
              have HN := Lib.hid hn
              clear hnr hn HG3
              have HX : Shut (s.extract p (p + k + 1) = str (((bts s).drop p).take (k + 1))) := ⟨by rw [extract_str]; congr 2; omega⟩
              have HSt : Shut (str (encZ z) = str (encZ z)) := ⟨rfl⟩
              by_cases h0 : s[p + k].toNat = 0 ∧ 0 < k
              · have HR : Shut (getI (bts s) p = none) := ⟨by rw [HG2.out, if_neg hge, if_pos (.inl h0)]⟩
                have hne : (!(str (encZ z)).toList == (s.extract p (p + k + 1)).toList) = true := by
                  rw [strs_ne2 (fun e => HVal.out _ h0 rfl (by
                    have := congrArg bts (e.trans HX.out)
                    simpa only [bts_str] using this))]
                  rfl
                generalize str (encZ z) = T at *
                clear h0
                go_wp2_with fail
                clear hpI hW
                refine CP.out.mono ?_
                rintro e w1 ⟨rfl, f1⟩
                have HF := Lib.hid f1
                clear f1 CP
                have hxp : p + k + 1 ≤ s.size := by omega
                have htn : ((p : Int) + (k : Int) + 1).toNat = p + k + 1 := by omega
                go_wp2_with fail
                all_goals
                  go_ret3
                  exact ⟨HF.out, by rw [HR.out]; rfl⟩
              · have HR : Shut (getI (bts s) p = some ((z : Int) / 2, p + k + 1)) := ⟨by
                  rw [HG2.out, if_neg hge, if_neg (fun h => by
                    rcases h with h | h
                    · exact h0 h
                    · rw [HN.out] at h; exact hbig h), HN.out]⟩
                have hne : (!(str (encZ z)).toList == (s.extract p (p + k + 1)).toList) = false := by
                  rw [HX.out, HVal2.out h0, beq_self_eq_true]
                  rfl
                generalize str (encZ z) = T at *
                clear h0
                go_wp2_with fail
                clear hpI hW
                refine CP.out.mono ?_
                rintro e w1 ⟨rfl, f1⟩
                have HF := Lib.hid f1
                clear f1 CP
                have hxp : p + k + 1 ≤ s.size := by omega
                have htn : ((p : Int) + (k : Int) + 1).toNat = p + k + 1 := by omega
                go_wp2_with fail
                all_goals
                  go_ret3
                  exact ⟨HF.out, by rw [HR.out]; rfl⟩
      · have HR : Shut (getI (bts s) p = none) := ⟨by
          rw [HG.out, show 9 - k = (8 - k) + 1 by omega, getGo, List.getElem?_eq_none (by rw [bts_len]; omega)]⟩
        clear HG
        go_wp2_with fail
        go_ret3
        exact ⟨Fr.refl _ _, by rw [HR.out]; rfl⟩
    · have HR : Shut (getI (bts s) p = none) := ⟨by rw [HG.out, show 9 - k = 0 by omega, getGo]⟩
      clear HG
      go_wp2_with fail
      go_ret3
      exact ⟨Fr.refl _ _, by rw [HR.out]; rfl⟩

/-- What String returns. -/
def strR : Option (List UInt8 × Nat) → Value
  | none => .tuple #[.string ⟨#[]⟩, .int .i64 0, .int .i64 10]
  | some (l, q) => .tuple #[.string (str l), .int .i64 q, .int .i64 0]
set_option maxRecDepth 100000 in
set_option maxHeartbeats 1000000 in
theorem rString_c (s : ByteArray) (p : Nat) (hp : p ≤ s.size) (hs : s.size ≤ 4611686018427387903) (w : World) : Calls Tryz.prog 68 #[.string s, .int .i64 p] w fun e w' => Fr [] w w' ∧ e = .returned (strR (getS (bts s) p)) := by
  have CI' := rInt_c s p hp hs w
  cases hg : getI (bts s) p with
  | none =>
    rw [hg] at CI'
    have HS : Shut (getS (bts s) p = none) := ⟨by rw [getS, hg]⟩
    have CI := Lib.hid CI'
    clear CI' hg
    go_enter Tryz.func68, Tryz.ntmps68
    go_wp2_with fail
    refine CI.out.mono ?_
    rintro e w1 ⟨f1, rfl⟩
    have HF := Lib.hid f1
    simp only [intR]
    clear f1 CI
    go_wp2_with fail
    go_ret3
    exact ⟨HF.out, by rw [HS.out]; rfl⟩
  | some nq =>
    obtain ⟨n, q⟩ := nq
    rw [hg] at CI'
    have hq := getI_bound hg
    rw [bts_len] at hq
    have HG : Shut (getS (bts s) p = if n < 0 ∨ 65536 < n ∨ ((bts s).length : Int) - q < n then none else some (((bts s).drop q).take n.toNat, q + n.toNat)) := ⟨by rw [getS, hg]⟩
    have CI := Lib.hid CI'
    clear CI' hg
    by_cases hbad : n < 0 ∨ 65536 < n ∨ ((bts s).length : Int) - q < n
    · have HR : Shut (getS (bts s) p = none) := ⟨by rw [HG.out, if_pos hbad]⟩
      rw [bts_len] at hbad
      go_enter Tryz.func68, Tryz.ntmps68
      go_wp2_with fail
      refine CI.out.mono ?_
      rintro e w1 ⟨f1, rfl⟩
      have HF := Lib.hid f1
      simp only [intR]
      clear f1 CI
      go_wp2_with fail
      all_goals
        go_ret3
        exact ⟨HF.out, by rw [HR.out]; rfl⟩
    · have HR : Shut (getS (bts s) p = some (((bts s).drop q).take n.toNat, q + n.toNat)) := ⟨by rw [HG.out, if_neg hbad]⟩
      rw [bts_len] at hbad
      obtain ⟨m, rfl⟩ := Int.eq_ofNat_of_zero_le (show 0 ≤ n by omega)
      have hm : q + m ≤ s.size := by omega
      have hm2 : m ≤ 65536 := by omega
      have HX : Shut (s.extract q (q + m) = str (((bts s).drop q).take m)) := ⟨by rw [extract_str]; congr 2; omega⟩
      clear hbad
      go_enter Tryz.func68, Tryz.ntmps68
      go_wp2_with fail
      refine CI.out.mono ?_
      rintro e w1 ⟨f1, rfl⟩
      have HF := Lib.hid f1
      simp only [intR]
      clear f1 CI
      go_wp2_with fail
      all_goals
        go_ret3
        exact ⟨HF.out, by rw [HR.out]; simp [strR, HX.out]⟩

end Go.Proofs.YtbogljpafpkikaaGreatDoor

/-
  The reference's journal, the plain part: what is read stands there as it is stored.
-/
namespace Go.Proofs.YtbogljpafpkikaaGreatDoor
open Go.RowKit Go.Lib

theorem getGo_canon (s : List UInt8) (p : Nat) : ∀ (f k c : Nat) (n : Int) (q : Nat), c = valD ((s.drop p).take k) → (∀ x, x ∈ (s.drop p).take k → 128 ≤ x.toNat) → p + k ≤ s.length → getGo s p f k c = some (n, q) →
    ∃ z, unz z = n ∧ encZ z = (s.drop p).take (q - p) ∧ p < q ∧ q ≤ s.length
  | 0, k, c, n, q, _, _, _, h => by rw [getGo] at h; cases h
  | f + 1, k, c, n, q, hc, hM, hk, h => by
    rw [getGo] at h
    split at h
    · cases h
    · rename_i b hb
      have hl := (List.getElem?_eq_some_iff.1 hb).1
      have hT := drop_take_snoc hb
      have hkl : ((s.drop p).take k).length = k := by rw [List.length_take, List.length_drop]; omega
      have hV : c + b.toNat % 128 * 2 ^ (7 * k) = valD ((s.drop p).take (k + 1)) := by rw [hT, valD_snoc, hkl, ← hc]
      split at h
      · rename_i hge
        exact getGo_canon s p f (k + 1) _ n q hV (fun x hx => by
          rw [hT] at hx
          rcases List.mem_append.1 hx with h1 | h1
          · exact hM x h1
          · rw [List.mem_singleton] at h1
            rw [h1]; exact hge) (by omega) h
      · rename_i hge
        split at h
        · cases h
        · rename_i hbad
          simp only [Option.some.injEq, Prod.mk.injEq] at h
          refine ⟨_, h.1, ?_, by omega, by omega⟩
          rw [hV, hT, show q - p = k + 1 by omega, hT]
          refine encZ_valD _ _ hM (by omega) ?_
          by_cases hk0 : k = 0
          · left; exact List.eq_nil_of_length_eq_zero (by rw [hkl, hk0])
          · right; intro e; exact hbad (.inl ⟨e, by omega⟩)
theorem unz_even {z : Nat} {n : Int} (h : unz z = n) (h0 : 0 ≤ n) : z = 2 * n.toNat := by
  unfold unz at h
  split at h <;> omega
theorem getS_canon {s r : List UInt8} {p q : Nat} (hp : p ≤ s.length) (h : getS s p = some (r, q)) : (s.drop p).take (q - p) = putS (str r) ∧ p < q ∧ q ≤ s.length ∧ r.length ≤ 65536 := by
  unfold getS at h
  split at h
  · cases h
  · rename_i n p' hi
    split at h
    · cases h
    · rename_i hn
      simp only [Option.some.injEq, Prod.mk.injEq] at h
      obtain ⟨z, hz, he, h1, h2⟩ := getGo_canon s p 9 0 0 n p' rfl (by simp) (by omega) hi
      have hz2 := unz_even hz (by omega)
      have hrl : r.length = n.toNat := by rw [← h.1, List.length_take, List.length_drop]; omega
      refine ⟨?_, by omega, by omega, by omega⟩
      rw [putS, str_size, bts_str, hrl, ← hz2, he, ← h.1, show q - p = (p' - p) + n.toNat by omega, List.take_add, List.drop_drop, show p + (p' - p) = p' by omega]
/-- The program's test of a record and the reference's. -/
theorem record_eq {s r : List UInt8} {q : Nat} {t : Tp} (h0 : s[t.size]? = some 1) (hg : getS s (t.size + 1) = some (r, q)) (_hq : q + 32 ≤ s.length) : (recL t.head (str r) = (s.drop t.size).take (q + 32 - t.size)) ↔ bts (chainM t.head (str r)) = (s.drop q).take 32 := by
  have hl := (List.getElem?_eq_some_iff.1 h0).1
  obtain ⟨h1, h2, h3, _⟩ := getS_canon (by omega) hg
  have e : (s.drop t.size).take (q + 32 - t.size) = 1 :: (putS (str r) ++ (s.drop q).take 32) := by
    rw [List.drop_eq_getElem_cons hl, (List.getElem?_eq_some_iff.1 h0).2, show q + 32 - t.size = (q - (t.size + 1) + 32) + 1 by omega, List.take_succ_cons, List.take_add, h1, List.drop_drop, show t.size + 1 + (q - (t.size + 1)) = q by omega]
  rw [e, recL]
  constructor
  · intro h
    simp only [List.cons.injEq, true_and] at h
    exact List.append_cancel_left h
  · intro h
    rw [h]

/-! ### A record as it is stored; the room -/
theorem cat_three (a n : ByteArray) : (⟨#[1]⟩ : ByteArray) ++ a ++ n = str (1 :: (bts a ++ bts n)) := by
  apply ByteArray.ext; simp [str, bts]
set_option maxRecDepth 100000 in
theorem stored_c (h r : ByteArray) (hh : h.size = 32) (hr : r.size ≤ 65536) (w : World) : Calls Tryz.prog 40 #[.string h, .string r] w fun e w' => e = .returned (.tuple #[.string (str (recL h r)), .string (chainM h r)]) ∧ Fr [] w w' := by
  have CC := Lib.hid (chain2_c h r (by omega) (by omega) w)
  have CP := Lib.hid fun W => putString01_c r hr W
  have HX : Shut ((⟨#[1]⟩ : ByteArray) ++ str (putS r) ++ chainM h r = str (recL h r)) := ⟨by rw [cat_three]; rfl⟩
  have hPs : (str (putS r)).size ≤ 70000 := by
    have := (encZ_len (2 * r.size) (by omega)).1
    rw [str_size, putS, List.length_append, bts_len]; omega
  have hNs : (chainM h r).size ≤ 32 := by rw [chainM_size]; omega
  generalize str (putS r) = P at *
  generalize chainM h r = N at *
  go_enter Tryz.func40, Tryz.ntmps40
  go_wp2_with fail
  refine CC.out.mono ?_
  rintro e w1 ⟨rfl, f1⟩
  have HF1 := Lib.hid f1
  clear f1 CC
  go_wp2_with fail
  refine (CP.out w1).mono ?_
  rintro e w2 ⟨rfl, f2⟩
  have HF2 := Lib.hid (HF1.out.trans f2)
  clear f2 CP HF1
  go_wp2_with fail
  go_ret2
  exact ⟨by rw [HX.out]; rfl, HF2.out⟩

end Go.Proofs.YtbogljpafpkikaaGreatDoor

/-
  Plain facts on disks (out of the texts for dialtonelaw09).
-/
namespace Go.Proofs.YtbogljpafpkikaaGreatDoor
open Go.RowKit Go.Lib

theorem bytesAt_set {w : World} {b i : Nat} {e : TypeId} {l : List UInt8} (c : UInt8) (h : BytesAt w b e l) : BytesAt (w.setCell ⟨b, i, none⟩ (.int .u8 c.toNat)) b e (l.set i c) := by
  unfold BytesAt
  rw [heap_setCell_same _ h]
  simp [byteCells, List.map_set]
theorem paste_get (l : List UInt8) (o : Nat) (s : List UInt8) (h : o + s.length ≤ l.length) (j : Nat) : (paste l o s)[j]? = if j < o then l[j]? else if j < o + s.length then s[j - o]? else l[j]? := by
  have e2 : (l.take o).length = o := by simp; omega
  unfold paste
  by_cases h1 : j < o
  · rw [if_pos h1, List.append_assoc, List.getElem?_append_left (by omega), List.getElem?_take_of_lt h1]
  · rw [if_neg h1, List.append_assoc, List.getElem?_append_right (by omega), e2]
    by_cases h2 : j < o + s.length
    · rw [if_pos h2, List.getElem?_append_left (by omega)]
    · rw [if_neg h2, List.getElem?_append_right (by omega), List.getElem?_drop]
      congr 1
      omega
theorem paste_step (l : List UInt8) (o : Nat) (s : List UInt8) (k : Nat) (hk : k < s.length) (h : o + s.length ≤ l.length) : (paste l o (s.take k)).set (o + k) s[k] = paste l o (s.take (k + 1)) := by
  apply List.ext_getElem?
  intro j
  have e0 : (s.take k).length = k := by simp; omega
  have e1 : (s.take (k + 1)).length = k + 1 := by simp; omega
  have hp : (paste l o (s.take k)).length = l.length := paste_length _ _ _ (by omega)
  rw [List.getElem?_set, paste_get l o _ (by omega), paste_get l o _ (by omega), e0, e1, hp]
  by_cases h1 : o + k = j
  · subst h1
    rw [if_pos rfl, if_pos (by omega), if_neg (by omega), if_pos (by omega), show o + k - o = k by omega, List.getElem?_take_of_lt (by omega), List.getElem?_eq_getElem hk]
  · rw [if_neg h1]
    by_cases h2 : j < o
    · rw [if_pos h2, if_pos h2]
    · by_cases h3 : j < o + k
      · rw [if_neg h2, if_neg h2, if_pos h3, if_pos (by omega), List.getElem?_take_of_lt (by omega), List.getElem?_take_of_lt (by omega)]
      · rw [if_neg h2, if_neg h2, if_neg h3, if_neg (by omega)]
/-! ### The model under power -/
/-- Power, and no cut. -/
def Dk.up (D : Dk) : Prop := D.off = false ∧ D.left = 0
theorem up_new (n : Nat) : (Dk.new n).up := ⟨rfl, rfl⟩
theorem write_up {D : Dk} (h : D.up) {o : Nat} {s : ByteArray} (hs : o + s.size ≤ D.dur.length) : D.writeE o s = 0 ∧ D.writeD o s = D.put o s := by
  have hi : insB D.dur.length o s.size = true := by simp [insB]; omega
  have hu : (D.put o s).use = D.put o s := by simp [Dk.use, Dk.put, h.2]
  exact ⟨by simp [Dk.writeE, h.1, hi], by simp [Dk.writeD, h.1, hi, Dk.write, hu]⟩
theorem put_up {D : Dk} (h : D.up) (o : Nat) (s : ByteArray) : (D.put o s).up := h
theorem sync_up {D : Dk} (h : D.up) : D.syncE = 0 ∧ D.syncD = D.sync ∧ D.sync.up := ⟨by simp [Dk.syncE, h.1], by simp [Dk.syncD, h.1], h⟩
theorem read_up {D : Dk} (h : D.up) (hl : D.vis.length = D.dur.length) : D.readE 0 D.dur.length = 0 ∧ D.readS 0 D.dur.length = D.vis := by
  have hi : insB D.dur.length 0 D.dur.length = true := by simp [insB]
  refine ⟨by simp [Dk.readE, h.1, hi], ?_⟩
  simp only [Dk.readS, h.1, hi, Bool.false_eq_true, if_false, if_true, Int.toNat_natCast, Int.toNat_zero, List.drop_zero]
  exact List.take_of_length_le (by omega)
/-- string(b) of a whole block of bytes. -/
theorem wp_bytes_all {P : Program} {w : World} {o : Oper} {a : Act} {K : Act → World → Prop} {Q : Exit → Act → World → Prop} (x : Operand) (src dst e : TypeId) (ho : o.op = .convert src dst x)
    (hs : P.underlying src = some (.slice e)) (he : P.underlying e = some (.int .u8)) (hd : P.underlying dst = some .string)
    (g n cap : Nat) (l : List UInt8) (e' : TypeId) (hx : a.eval x = .slice (some ⟨g, 0, none⟩) n cap) (hb : BytesAt w g e' l) (hn : l.length = n)
    (h : K (a.put o.dst (.string ⟨l.toArray⟩)) w) : o.wp P a w K Q := by
  refine wp_bytes_str x src dst e ho hs he hd g 0 n cap l e' hx hb (by omega) ?_
  rw [List.drop_zero, List.take_of_length_le (by omega)]
  exact h
theorem Upd.notin {fp fp' : List Nat} {w w' : World} (h : Upd fp fp' w w') {k : Nat} (h1 : k ∉ fp) (h2 : k < w.heap.size) : k ∉ fp' := fun hm => by
  rcases h.sub k hm with h | h
  · exact h1 h
  · omega
/-! ### The visible content is the durable one after all pending writes -/
def apply1 (acc : List UInt8) (p : Nat × ByteArray) : List UInt8 := paste acc p.1 p.2.data.toList
def Dk.coh (D : Dk) : Prop := D.vis = D.pend.foldl apply1 D.dur
theorem coh_new (n : Nat) : (Dk.new n).coh := rfl
theorem coh_put {D : Dk} (h : D.coh) (o : Nat) (s : ByteArray) : (D.put o s).coh := by
  unfold Dk.coh at *
  simp only [Dk.put, List.foldl_append, List.foldl_cons, List.foldl_nil, ← h, apply1]
theorem coh_sync (D : Dk) : D.sync.coh := rfl
/-- 0, 1, .. , k - 1 -/
def iotaI (k : Nat) : List Int := (List.range k).map fun (i : Nat) => (i : Int)
theorem iotaI_length (k : Nat) : (iotaI k).length = k := by simp [iotaI]
theorem iotaI_succ (k : Nat) : iotaI (k + 1) = iotaI k ++ [(k : Int)] := by simp [iotaI, List.range_succ]
theorem iotaI_get (k j : Nat) (h : j < (iotaI k).length) : (iotaI k)[j] = (j : Int) := by simp [iotaI]
theorem iotaI_mem {k : Nat} {x : Int} (h : x ∈ iotaI k) : 0 ≤ x ∧ x < k := by
  obtain ⟨j, hj, rfl⟩ := List.mem_map.1 h
  have : j < k := by simpa using hj
  omega
theorem sortI_of_sorted {l : List Int} (h : l.Pairwise (· < ·)) : sortI l = l := by
  unfold sortI
  refine List.mergeSort_of_pairwise ?_
  exact h.imp fun {a b} (hab : a < b) => by simp; omega
theorem compact_of_sorted {l : List Int} (h : l.Pairwise (· < ·)) : Lib.compact l = l := by
  refine Lib.compact_all l fun j hj => ?_
  rcases Nat.eq_zero_or_pos j with rfl | h0
  · exact Lib.keeps_lt_one _ 0 (by omega)
  · refine Lib.keeps_pos ?_
    have hlt : l[j - 1] < l[j] := List.pairwise_iff_getElem.1 h (j - 1) j (by omega) hj (by omega)
    rw [getElem!_pos l.toArray j (by simpa using hj), getElem!_pos l.toArray (j - 1) (by simp; omega)]
    simp only [List.getElem_toArray]
    omega
theorem survL_sorted {m : Nat} {l : List Int} (h : l.Pairwise (· < ·)) (hm : ∀ x, x ∈ l → 0 ≤ x ∧ x < m) : survL m l = l := by
  unfold survL
  rw [sortI_of_sorted h, compact_of_sorted h]
  refine List.filter_eq_self.2 fun x hx => ?_
  have := hm x hx
  simp [outP]
  omega
theorem iotaI_sorted (k : Nat) : (iotaI k).Pairwise (· < ·) := by
  rw [List.pairwise_iff_getElem]
  intro i j hi hj hij
  rw [iotaI_get, iotaI_get]
  omega
theorem survL_iota (m : Nat) : survL m (iotaI m) = iotaI m := survL_sorted (iotaI_sorted m) fun _ hx => iotaI_mem hx
/-- All survive, none torn. -/
theorem crash_all {D : Dk} (h : D.coh) : D.crash (iotaI D.pend.length) (-1) = ⟨false, 0, D.vis, D.vis, []⟩ := by
  have key : ∀ k, k ≤ D.pend.length → crashTo D (iotaI D.pend.length) (-1) k = (D.pend.take k).foldl apply1 D.dur := by
    intro k
    induction k with
    | zero => intro _; rfl
    | succ k ih =>
      intro hk
      rw [crashTo, ih (by omega), List.take_succ_eq_append_getElem (by omega), List.foldl_append]
      have hs : survS D.pend (iotaI D.pend.length) (-1) k = D.pend[k] :=
        survS_plain (i := k) (by rw [iotaI_length]; omega) (iotaI_get _ _ _) (by omega) (by omega)
      rw [hs]
      rfl
  unfold Dk.crash
  rw [survL_iota]
  simp only [iotaI_length]
  rw [key _ (Nat.le_refl _), List.take_length, ← h]
theorem intsB_of_row {w : World} {v : Value} {xs : List Int} (h : w.ownsRow 0 3 1 v xs.length (xs.map (Value.int .i64))) : IntsB w.heap.size w v xs := by
  rcases h.2 with ⟨rfl, h0⟩ | ⟨g, cap, cur, rfl, _, hg, r1, r2, r3, r4⟩
  · exact .inl ⟨List.eq_nil_of_length_eq_zero h0, none, 0, rfl⟩
  · refine .inr ⟨g, 0, cap, rfl, blk_lt hg, fun j hj => ?_⟩
    have e1 : (cur.toList.take (xs.length * 1))[j]? = cur.toList[j]? := List.getElem?_take_of_lt (by omega)
    rw [Nat.zero_add, cell_of_blk hg, ← Array.getElem?_toList, ← e1, r4]
    simp [hj]
/-- The row of ints v, one of the others' blocks, goes on. -/
theorem row_keep {w1 w2 : World} {v : Value} {n : Nat} {xs : List Value} (h : w1.ownsRow 0 3 1 v n xs) (hk : ∀ k, v.ownBlock = some k → w2.heap[k]? = w1.heap[k]?) : w2.ownsRow 0 3 1 v n xs := ownsRow_keep h hk
/-- The kept numbers below k, ascending. -/
def keptI (kp : Nat → Bool) (k : Nat) : List Int := ((List.range k).filter kp).map fun (i : Nat) => (i : Int)
theorem keptI_pos (kp : Nat → Bool) (k : Nat) (h : kp k = true) : keptI kp (k + 1) = keptI kp k ++ [(k : Int)] := by
  simp [keptI, List.range_succ, List.filter_append, h]
theorem keptI_neg (kp : Nat → Bool) (k : Nat) (h : kp k = false) : keptI kp (k + 1) = keptI kp k := by
  simp [keptI, List.range_succ, List.filter_append, h]
theorem keptI_mem {kp : Nat → Bool} {k : Nat} {x : Int} (h : x ∈ keptI kp k) : 0 ≤ x ∧ x < k := by
  obtain ⟨j, hj, rfl⟩ := List.mem_map.1 h
  have : j < k := by simpa using (List.mem_filter.1 hj).1
  omega
theorem keptI_len (kp : Nat → Bool) (k : Nat) : (keptI kp k).length ≤ k := by
  have := List.length_filter_le kp (List.range k)
  simpa [keptI] using this
theorem keptI_sorted (kp : Nat → Bool) (k : Nat) : (keptI kp k).Pairwise (· < ·) := by
  unfold keptI
  rw [List.pairwise_map]
  exact ((List.pairwise_lt_range (n := k)).filter kp).imp fun h => by omega
theorem sorted_unique : ∀ {a b : List Int}, a.Pairwise (· ≤ ·) → b.Pairwise (· ≤ ·) → a.Perm b → a = b
  | [], b, _, _, h => by simpa using h.symm
  | x :: a, [], _, _, h => by simp at h
  | x :: a, y :: b, ha, hb, h => by
    have hx : x ∈ y :: b := h.subset (by simp)
    have hy : y ∈ x :: a := h.symm.subset (by simp)
    have e : x = y := by
      rcases List.mem_cons.1 hx with e | hx
      · exact e
      · rcases List.mem_cons.1 hy with e | hy
        · exact e.symm
        · have h1 := (List.pairwise_cons.1 ha).1 y hy
          have h2 := (List.pairwise_cons.1 hb).1 x hx
          omega
    subst e
    rw [sorted_unique (List.pairwise_cons.1 ha).2 (List.pairwise_cons.1 hb).2 (List.perm_cons x |>.1 h)]
theorem sortI_perm_sorted {l l' : List Int} (h : l.Pairwise (· < ·)) (hp : l'.Perm l) : sortI l' = l := by
  refine sorted_unique ?_ (h.imp fun h => by omega) ((List.mergeSort_perm _ _).trans hp)
  have := List.pairwise_mergeSort (le := fun (x y : Int) => decide (x ≤ y)) (fun a b c h1 h2 => by simp at *; omega) (fun a b => by simp; omega) l'
  exact this.imp fun h => by simpa using h
theorem survL_perm {m : Nat} {l l' : List Int} (h : l.Pairwise (· < ·)) (hp : l'.Perm l) (hm : ∀ x, x ∈ l → 0 ≤ x ∧ x < m) : survL m l' = l := by
  have h1 := survL_sorted h hm
  unfold survL at *
  rw [sortI_perm_sorted h hp]
  rwa [sortI_of_sorted h] at h1
/-- The last kept number below k, or -1. -/
def lastK (kp : Nat → Bool) : Nat → Int
  | 0 => -1
  | k + 1 => if kp k then k else lastK kp k
theorem lastK_lt (kp : Nat → Bool) : ∀ k, lastK kp k < k
  | 0 => by simp [lastK]
  | k + 1 => by
    have := lastK_lt kp k
    unfold lastK
    split <;> omega
theorem lastK_ge (kp : Nat → Bool) : ∀ k, -1 ≤ lastK kp k
  | 0 => by simp [lastK]
  | k + 1 => by
    have := lastK_ge kp k
    unfold lastK
    split <;> omega
/-- A kept number is the last one exactly if no more follow. -/
theorem lastK_iff (kp : Nat → Bool) (k : Nat) (hk : kp k = true) : ∀ n, k < n → (((k : Int) = lastK kp n) ↔ ((keptI kp k).length + 1 = (keptI kp n).length)) := by
  intro n hn
  induction n with
  | zero => omega
  | succ n ih =>
    by_cases he : k = n
    · subst he
      simp [lastK, hk, keptI_pos]
    · have hl : (keptI kp k).length + 1 ≤ (keptI kp n).length := by
        have : ∀ d, (keptI kp (k + 1)).length ≤ (keptI kp (k + 1 + d)).length := by
          intro d
          induction d with
          | zero => exact Nat.le_refl _
          | succ d ihd =>
            refine Nat.le_trans ihd ?_
            show _ ≤ (keptI kp (k + 1 + d + 1)).length
            cases h : kp (k + 1 + d) with
            | true => rw [keptI_pos _ _ h]; simp
            | false => rw [keptI_neg _ _ h]; exact Nat.le_refl _
        have h2 := this (n - (k + 1))
        rw [keptI_pos kp k hk, show k + 1 + (n - (k + 1)) = n by omega] at h2
        simpa using h2
      cases h : kp n with
      | true =>
        simp only [lastK, h, if_true, keptI_pos kp n h, List.length_append, List.length_singleton]
        omega
      | false =>
        simp only [lastK, h, Bool.false_eq_true, if_false, keptI_neg kp n h]
        exact ih (by omega)
theorem keptI_take (kp : Nat → Bool) (k : Nat) (hk : kp k = true) : ∀ n, k < n → (keptI kp n)[(keptI kp k).length]? = some (k : Int) := by
  intro n hn
  induction n with
  | zero => omega
  | succ n ih =>
    by_cases he : k = n
    · subst he
      rw [keptI_pos kp k hk]
      simp
    · cases h : kp n with
      | true =>
        rw [keptI_pos kp n h, List.getElem?_append_left]
        · exact ih (by omega)
        · have := ih (by omega)
          exact (List.getElem?_eq_some_iff.1 this).1
      | false => rw [keptI_neg kp n h]; exact ih (by omega)
/-- What is expected of a crash in which the numbers of kp survive. -/
def wantW (F : List UInt8) (pw : Nat → Nat × ByteArray) (kp : Nat → Bool) (last torn : Int) : Nat → List UInt8
  | 0 => F
  | k + 1 => if kp k then paste (wantW F pw kp last torn k) (pw k).1 (if (k : Int) = last ∧ 0 ≤ torn then (pw k).2.extract 0 (min (pw k).2.size torn.toNat) else (pw k).2).data.toList else wantW F pw kp last torn k
theorem crash_kept {D : Dk} {pw : Nat → Nat × ByteArray} {kp : Nat → Bool} {torn : Int} {K : Nat} (hp : D.pend = (List.range K).map pw) :
    D.crash (keptI kp K).reverse torn = ⟨false, 0, wantW D.dur pw kp (lastK kp K) torn K, wantW D.dur pw kp (lastK kp K) torn K, []⟩ := by
  have hl : D.pend.length = K := by simp [hp]
  have hs : survL D.pend.length (keptI kp K).reverse = keptI kp K := survL_perm (keptI_sorted kp K) (List.reverse_perm _) (by rw [hl]; exact fun x hx => keptI_mem hx)
  have key : ∀ k, k ≤ K → crashTo D (keptI kp K) torn (keptI kp k).length = wantW D.dur pw kp (lastK kp K) torn k := by
    intro k
    induction k with
    | zero => intro _; rfl
    | succ k ih =>
      intro hk
      cases h : kp k with
      | false => rw [keptI_neg kp k h]; simp only [wantW, h, Bool.false_eq_true, if_false]; exact ih (by omega)
      | true =>
        have h1 := keptI_take kp k h K (by omega)
        obtain ⟨hj, hv⟩ := List.getElem?_eq_some_iff.1 h1
        have hpk : ∀ hh : k < D.pend.length, D.pend[k] = pw k := by intro hh; simp [hp]
        have hkl : k < D.pend.length := by omega
        rw [keptI_pos kp k h, List.length_append, List.length_singleton, crashTo, ih (by omega)]
        simp only [wantW, h, if_true]
        by_cases ht : (k : Int) = lastK kp K ∧ 0 ≤ torn
        · rw [survS_torn hj hv hkl (((lastK_iff kp k h K (by omega)).1 ht.1)) ht.2, if_pos ht, hpk hkl, Nat.min_comm]
        · rw [survS_plain hj hv hkl (fun hh => ht ⟨(lastK_iff kp k h K (by omega)).2 hh.1, hh.2⟩), if_neg ht, hpk hkl]
  unfold Dk.crash
  rw [hs]
  simp only [key K (Nat.le_refl _)]
theorem wantW_length {F : List UInt8} {pw : Nat → Nat × ByteArray} {kp : Nat → Bool} {last torn : Int} {n : Nat} (hF : F.length = n) (hw : ∀ i, (pw i).1 + (pw i).2.size ≤ n) : ∀ k, (wantW F pw kp last torn k).length = n
  | 0 => hF
  | k + 1 => by
    have ih := wantW_length (kp := kp) (last := last) (torn := torn) hF hw k
    have := hw k
    simp only [wantW]
    split
    · rw [paste_length, ih]
      rw [ih]
      split
      · simp; omega
      · simpa using this
    · exact ih
/-- The digits that a law writes first. -/
def digs (k : Nat) : List UInt8 := (List.range k).map fun i => (48 + i % 10).toUInt8
theorem digs_length (k : Nat) : (digs k).length = k := by simp [digs]
def digsTo (n k : Nat) : List UInt8 := digs k ++ List.replicate (n - k) 0
theorem digsTo_length (n k : Nat) (h : k ≤ n) : (digsTo n k).length = n := by simp [digsTo, digs_length]; omega
theorem digsTo_zero (n : Nat) : digsTo n 0 = List.replicate n 0 := by simp [digsTo, digs]
theorem digsTo_all (n : Nat) : digsTo n n = digs n := by simp [digsTo]
theorem digsTo_set (n k : Nat) (h : k < n) : (digsTo n k).set k (48 + k % 10).toUInt8 = digsTo n (k + 1) := by
  unfold digsTo
  rw [List.set_append, digs_length]
  simp only [Nat.lt_irrefl, if_false, Nat.sub_self]
  obtain ⟨d, hd⟩ : ∃ d, n - k = d + 1 := ⟨n - k - 1, by omega⟩
  rw [hd, List.replicate_succ, List.set_cons_zero, show n - (k + 1) = d by omega]
  simp [digs, List.range_succ]
theorem paste_all (l s : List UInt8) (h : s.length = l.length) : paste l 0 s = s := by simp [paste, h]
theorem compactUpTo_sorted {zs : List Int} (h : zs.Pairwise (· ≤ ·)) : ∀ m, m ≤ zs.length → (compactUpTo zs.toArray m).Pairwise (· < ·) ∧ ∀ x, x ∈ compactUpTo zs.toArray m ↔ x ∈ zs.take m := by
  intro m
  induction m with
  | zero => intro _; simp [compactUpTo]
  | succ m ih =>
    intro hm
    obtain ⟨h1, h2⟩ := ih (by omega)
    have hg : zs.toArray[m]! = zs[m] := by rw [getElem!_pos zs.toArray m (by simp; omega)]; simp
    have ht : zs.take (m + 1) = zs.take m ++ [zs[m]] := List.take_succ_eq_append_getElem (by omega)
    rw [compactUpTo_succ, hg, ht]
    cases hk : keeps zs.toArray m with
    | true =>
      simp only [if_true]
      refine ⟨List.pairwise_append.2 ⟨h1, by simp, fun x hx y hy => ?_⟩, fun x => by rw [List.mem_append, List.mem_append, h2 x]⟩
      simp only [List.mem_singleton] at hy
      subst hy
      have hx2 := (h2 x).1 hx
      obtain ⟨j, hj, rfl⟩ := List.getElem_of_mem hx2
      simp only [List.length_take] at hj
      have hm0 : 0 < m := by omega
      rw [List.getElem_take]
      have hl : zs[j] ≤ zs[m - 1] := by
        rcases Nat.lt_or_ge j (m - 1) with h3 | h3
        · exact List.pairwise_iff_getElem.1 h j (m - 1) (by omega) (by omega) h3
        · have : j = m - 1 := by omega
          subst this
          exact Int.le_refl _
      have hl2 : zs[m - 1] ≤ zs[m] := List.pairwise_iff_getElem.1 h (m - 1) m (by omega) (by omega) (by omega)
      have hne : zs[m] ≠ zs[m - 1] := by
        have hg1 : zs.toArray[m - 1]! = zs[m - 1] := by rw [getElem!_pos zs.toArray (m - 1) (by simp; omega)]; simp
        simp only [keeps, hg, hg1, decide_eq_true_eq] at hk
        rcases hk with hk | hk
        · omega
        · exact hk
      omega
    | false =>
      simp only [Bool.false_eq_true, if_false, List.append_nil]
      refine ⟨h1, fun x => ?_⟩
      rw [h2 x]
      have hm0 : 0 < m := by
        rcases Nat.eq_zero_or_pos m with h0 | h0
        · rw [h0] at hk; simp [keeps] at hk
        · exact h0
      have hg1 : zs.toArray[m - 1]! = zs[m - 1] := by rw [getElem!_pos zs.toArray (m - 1) (by simp; omega)]; simp
      simp only [keeps, hg, hg1, decide_eq_false_iff_not, not_or, Classical.not_not] at hk
      constructor
      · intro hx; exact List.mem_append_left _ hx
      · intro hx
        rcases List.mem_append.1 hx with hx | hx
        · exact hx
        · simp only [List.mem_singleton] at hx
          rw [hx, hk.2]
          refine List.mem_iff_getElem.2 ⟨m - 1, by simp; omega, by simp⟩
theorem survL_eq (m : Nat) (keep : List Int) : survL m keep = keptI (fun i => keep.contains (i : Int)) m := by
  have hs : (sortI keep).Pairwise (· ≤ ·) := by
    have := List.pairwise_mergeSort (le := fun (x y : Int) => decide (x ≤ y)) (fun a b c h1 h2 => by simp at *; omega) (fun a b => by simp; omega) keep
    exact this.imp fun h => by simpa using h
  obtain ⟨h1, h2⟩ := compactUpTo_sorted hs (sortI keep).length (Nat.le_refl _)
  have h3 : (survL m keep).Pairwise (· < ·) := h1.filter _
  have h4 : ∀ x, x ∈ survL m keep ↔ x ∈ keptI (fun i => keep.contains (i : Int)) m := by
    intro x
    have e : x ∈ Lib.compact (sortI keep) ↔ x ∈ keep := by
      rw [Lib.compact, h2 x, List.take_length]
      exact (List.mergeSort_perm _ _).mem_iff
    unfold survL keepP keptI
    simp only [List.mem_filter, e, List.mem_map, List.mem_range]
    constructor
    · rintro ⟨hx, ho⟩
      simp only [outP, Bool.not_or, Bool.and_eq_true, Bool.not_eq_true', decide_eq_false_iff_not] at ho
      exact ⟨x.toNat, ⟨by omega, by rw [Int.toNat_of_nonneg (by omega)]; simpa using hx⟩, by omega⟩
    · rintro ⟨i, ⟨hi, hc⟩, rfl⟩
      exact ⟨by simpa using hc, by simp [outP]; omega⟩
  have n1 : (survL m keep).Nodup := h3.imp fun h => by omega
  have n2 : (keptI (fun i => keep.contains (i : Int)) m).Nodup := (keptI_sorted _ m).imp fun h => by omega
  exact sorted_unique (h3.imp fun h => by omega) ((keptI_sorted _ m).imp fun h => by omega) ((List.perm_ext_iff_of_nodup n1 n2).2 h4)
/-- The kept writes. -/
def keptP (pend : List (Nat × ByteArray)) (kp : Nat → Bool) (k : Nat) : List (Nat × ByteArray) := (keptI kp k).map fun i => pend.getD i.toNat (0, ByteArray.empty)
theorem keptP_pos (pend : List (Nat × ByteArray)) (kp : Nat → Bool) (k : Nat) (hk : k < pend.length) (h : kp k = true) : keptP pend kp (k + 1) = keptP pend kp k ++ [pend[k]] := by
  simp [keptP, keptI_pos kp k h, hk]
theorem keptP_neg (pend : List (Nat × ByteArray)) (kp : Nat → Bool) (k : Nat) (h : kp k = false) : keptP pend kp (k + 1) = keptP pend kp k := by
  simp [keptP, keptI_neg kp k h]
theorem keptP_len (pend : List (Nat × ByteArray)) (kp : Nat → Bool) (k : Nat) : (keptP pend kp k).length = (keptI kp k).length := by simp [keptP]
/-- The j-th survivor, as the reference cuts it. -/
theorem survS_kept (pend : List (Nat × ByteArray)) (kp : Nat → Bool) (K : Nat) (torn : Int) (j : Nat) (hj : j < (keptP pend kp K).length) :
    survS pend (keptI kp K) torn j = ((keptP pend kp K)[j].1, if j + 1 = (keptP pend kp K).length ∧ 0 ≤ torn ∧ torn < (keptP pend kp K)[j].2.size then (keptP pend kp K)[j].2.extract 0 torn.toNat else (keptP pend kp K)[j].2) := by
  have hj' : j < (keptI kp K).length := by rw [← keptP_len pend kp K]; exact hj
  have eq : (keptP pend kp K)[j] = pend.getD ((keptI kp K).getD j 0).toNat (0, ByteArray.empty) := by simp [keptP, hj']
  rw [keptP_len, eq]
  unfold survS
  generalize pend.getD ((keptI kp K).getD j 0).toNat (0, ByteArray.empty) = q
  obtain ⟨o, s⟩ := q
  by_cases h : j + 1 = (keptI kp K).length ∧ 0 ≤ torn
  · rw [if_pos h]
    by_cases h2 : torn < s.size
    · rw [if_pos ⟨h.1, h.2, h2⟩, show min torn.toNat s.size = torn.toNat by omega]
    · rw [if_neg (fun hh => h2 hh.2.2), show min torn.toNat s.size = s.size by omega]
      simp
  · rw [if_neg h, if_neg (fun hh => h ⟨hh.1, hh.2.1⟩)]

end Go.Proofs.YtbogljpafpkikaaGreatDoor

/-
  The reference's disk in memory, and its small helpers apply and has.
-/
namespace Go.Proofs.YtbogljpafpkikaaGreatDoor
open Go.RowKit Go.Lib

structure RfIn (w : World) (b : Nat) (sv pv : Value) (D : Dk) : Prop where
  ok : D.Ok
  coh : D.coh
  str : w.heap[b]? = some (.cells #[sv, pv, .bool D.off, .int .i64 D.left] 63 (0, 0))
  sure : w.ownsRow 0 5 1 sv D.dur.length (byteCells D.dur)
  pend : w.ownsRow 0 97 2 pv D.pend.length (pendC D.pend)
  nes : ∀ g, sv.ownBlock = some g → g ≠ b
  nep : ∀ g, pv.ownBlock = some g → g ≠ b ∧ sv.ownBlock ≠ some g

def RfA (w : World) (b : Nat) (fp : List Nat) (D : Dk) : Prop := ∃ sv pv, RfIn w b sv pv D ∧ fp = b :: (sv.ownBlock.toList ++ pv.ownBlock.toList)

theorem RfIn.fp_lt {w : World} {b : Nat} {sv pv : Value} {D : Dk} (h : RfIn w b sv pv D) : ∀ k, k ∈ b :: (sv.ownBlock.toList ++ pv.ownBlock.toList) → k < w.heap.size := by
  intro k hk
  simp only [List.mem_cons, List.mem_append, Option.mem_toList] at hk
  rcases hk with rfl | hk | hk
  · exact blk_lt h.str
  · exact ownsRow_lt h.sure hk
  · exact ownsRow_lt h.pend hk
theorem RfIn.keep {w w' : World} {b : Nat} {sv pv : Value} {D : Dk} (h : RfIn w b sv pv D) (hk : ∀ k, k ∈ b :: (sv.ownBlock.toList ++ pv.ownBlock.toList) → w'.heap[k]? = w.heap[k]?) : RfIn w' b sv pv D :=
  { h with
    str := (hk b (by simp)).trans h.str
    sure := ownsRow_keep h.sure fun g hg => hk g (by simp [hg])
    pend := ownsRow_keep h.pend fun g hg => hk g (by simp [hg]) }
theorem RfA.lt {w : World} {b : Nat} {fp : List Nat} {D : Dk} (h : RfA w b fp D) : ∀ k, k ∈ fp → k < w.heap.size := by
  obtain ⟨sv, pv, h, rfl⟩ := h
  exact h.fp_lt
theorem RfA.keep {w w' : World} {b : Nat} {fp S : List Nat} {D : Dk} (h : RfA w b fp D) (hf : Fr S w w') (hd : ∀ k, k ∈ fp → k ∉ S) : RfA w' b fp D := by
  have hlt := h.lt
  obtain ⟨sv, pv, h, rfl⟩ := h
  exact ⟨sv, pv, h.keep fun k hk => hf.block k (hlt k hk) (hd k hk), rfl⟩

/-- A cell of a row of one-cell elements is written. -/
theorem row_set1 {w : World} {e : TypeId} {g n cap : Nat} {xs : List Value} {i : Nat} (v : Value) (h : w.ownsRow 0 e 1 (.slice (some ⟨g, 0, none⟩) n cap) n xs) (_hi : i < n) : (w.setCell ⟨g, i, none⟩ v).ownsRow 0 e 1 (.slice (some ⟨g, 0, none⟩) n cap) n (xs.set i v) := by
  obtain ⟨h1, h2⟩ := h
  refine ⟨by simpa using h1, ?_⟩
  rcases h2 with ⟨h2, _⟩ | ⟨g', cap', cur, hv, hb, hg, r1, r2, r3, r4⟩
  · cases h2
  · cases hv
    refine .inr ⟨g, cap, cur.setIfInBounds i v, rfl, hb, heap_setCell_same _ hg, r1, r2, by simpa using r3, ?_⟩
    rw [← r4, Array.toList_setIfInBounds, List.take_set]

theorem row_cell1 {w : World} {e : TypeId} {g n cap : Nat} {xs : List Value} {i : Nat} (h : w.ownsRow 0 e 1 (.slice (some ⟨g, 0, none⟩) n cap) n xs) (hi : i < n) : w.cell? ⟨g, i, none⟩ = xs[i]? ∧ w.frozen? ⟨g, i, none⟩ = false := by
  obtain ⟨h1, h2⟩ := h
  rcases h2 with ⟨h2, _⟩ | ⟨g', cap', cur, hv, hb, hg, r1, r2, r3, r4⟩
  · cases h2
  · cases hv
    refine ⟨?_, free_of_blk hg i⟩
    rw [cell_of_blk hg, ← r4, List.getElem?_take_of_lt (by omega)]
    simp

set_option maxRecDepth 100000 in
set_option maxHeartbeats 800000 in
theorem rapply_c (g n cap o : Nat) (s : ByteArray) (l : List UInt8) (w : World) (hb : w.ownsRow 0 5 1 (.slice (some ⟨g, 0, none⟩) n cap) n (byteCells l)) (ho : o + s.size ≤ n) (hn : n ≤ 4194304) :
    Calls Tryz.prog 49 #[.slice (some ⟨g, 0, none⟩) n cap, .int .i64 o, .string s] w fun e w' => e = .returned (.tuple #[]) ∧ Fr [g] w w' ∧ w'.ownsRow 0 5 1 (.slice (some ⟨g, 0, none⟩) n cap) n (byteCells (paste l o s.data.toList)) := by
  have hl : l.length = n := by have := hb.1; simpa [byteCells_length] using this
  have Hb := Lib.hid hb; have Hl := Lib.hid hl; clear hb hl
  go_enter Tryz.func49, Tryz.ntmps49
  go_wp2
  go_loopw [6] (fun i wr => ∃ k : Nat, k ≤ s.size ∧ i = .int .i64 k ∧ Fr [g] w wr ∧ Hid (wr.ownsRow 0 5 1 (.slice (some ⟨g, 0, none⟩) n cap) n (byteCells (paste l o (s.data.toList.take k))))) (fun i _ => s.size - (intOf i).toNat)
  case atStart => exact ⟨0, Nat.zero_le _, rfl, Fr.refl _ _, Lib.hid (by simpa [paste_nil] using Hb.out)⟩
  case round =>
    obtain ⟨k, hk, rfl, hf, HB⟩ := hrel
    by_cases hlt : k < s.size
    · have hpl : (paste l o (s.data.toList.take k)).length = n := by
        rw [paste_length _ _ _ (by rw [Hl.out]; simp; omega), Hl.out]
      have hrc := row_cell1 HB.out (show o + k < n by omega)
      have hci : ∃ v, wr.cell? ⟨g, o + k, none⟩ = some v := by
        rw [hrc.1]
        exact ⟨_, List.getElem?_eq_getElem (by simp [byteCells_length, hpl]; omega)⟩
      obtain ⟨vi, hci⟩ := hci
      have hfi := hrc.2
      clear hpl hrc
      go_wp2
      go_roundw
      case rel =>
        refine ⟨k + 1, by omega, by go_num, hf.trans (Fr.setCell _ _ (by simp)), Lib.hid ?_⟩
        have hks : k < s.data.toList.length := by simpa using hlt
        have h1 := row_set1 (i := o + k) (.int .u8 (s.data.toList[k]).toNat) HB.out (by omega)
        rw [← paste_step l o s.data.toList k hks (by rw [Hl.out]; simpa using ho)]
        rw [byteCells, List.map_set]
        exact h1
      case measure => simp [intOf]; omega
    · obtain rfl : k = s.size := by omega
      go_wp2
      go_end0
      refine ⟨rfl, hf, ?_⟩
      have := HB.out
      rwa [List.take_of_length_le (by simp)] at this

set_option maxRecDepth 100000 in
set_option maxHeartbeats 800000 in
theorem rhas_c (a : Option Addr) (cap : Nat) (zs : List Int) (n : Int) (w : World) (hr : RowI w a cap zs) :
    Calls Tryz.prog 87 #[.slice a zs.length cap, .int .i64 n] w fun e w' => e = .returned (.bool (zs.contains n)) ∧ w = w' := by
  have hlm : zs.length ≤ 9223372036854775807 := Nat.le_trans hr.le hr.max
  have HR := Lib.hid hr; clear hr
  obtain ⟨bb, hbb⟩ : ∃ bb, bb = zs.contains n := ⟨_, rfl⟩
  rw [← hbb]
  have HBB := Lib.hid hbb; clear hbb
  go_enter Tryz.func87, Tryz.ntmps87
  go_wp2
  go_loopw [5] (fun i wr => ∃ k : Nat, k ≤ zs.length ∧ i = .int .i64 k ∧ w = wr ∧ Hid ((zs.take k).contains n = false)) (fun i _ => zs.length - (intOf i).toNat)
  case atStart => exact ⟨0, Nat.zero_le _, rfl, rfl, Lib.hid (by simp)⟩
  case round =>
    obtain ⟨k, hk, rfl, rfl, HC⟩ := hrel
    by_cases hlt : k < zs.length
    · obtain ⟨b', off', ha, hb', hcs⟩ := HR.out.cells (by omega)
      subst ha
      have e0 := hcs k hlt
      have hw := HR.out.wf _ (List.getElem_mem hlt)
      have ht : Hid (zs.take (k + 1) = zs.take k ++ [zs[k]]) := Lib.hid (take_snocI zs k hlt)
      have hm : Hid (zs[k] = n → zs.contains n = true) := Lib.hid fun h => by simp [← h]
      clear hcs
      generalize zs[k] = x at *
      by_cases hx : x = n
      · subst hx
        obtain rfl : bb = true := HBB.out.trans (hm.out rfl)
        clear hm HBB
        go_wp2
        go_ret
        exact ⟨rfl, rfl⟩
      · go_wp2
        go_roundw
        case rel =>
          refine ⟨k + 1, by omega, by go_num, by first | rfl | trivial, Lib.hid ?_⟩
          rw [ht.out]
          have := HC.out
          simp at this ⊢
          exact ⟨this, fun h => hx h.symm⟩
        case measure => simp [intOf]; omega
    · obtain rfl : k = zs.length := by omega
      have hc := HC.out
      rw [List.take_length] at hc
      obtain rfl : bb = false := HBB.out.trans hc
      clear hc HBB
      go_wp2
      go_ret
      exact ⟨rfl, rfl⟩

end Go.Proofs.YtbogljpafpkikaaGreatDoor

/-
  The reference's disk: New, Cut, Visible, Read, Sync, Write.
-/
namespace Go.Proofs.YtbogljpafpkikaaGreatDoor
open Go.RowKit Go.Lib

theorem infoCh : (Tryz.prog.info? 97).map (fun i => (i.zero, i.size, i.bytes)) = some (some (.agg #[.int .i64 0, .string ⟨#[]⟩]), 2, 24) := by kernel_rfl

/-- What a call on the reference's disk leaves. -/
def RfStep (b : Nat) (fp : List Nat) (r : Value) (D : Dk) (w : World) (e : Ending) (w' : World) : Prop := e = .returned r ∧ ∃ fp', RfA w' b fp' D ∧ Upd fp fp' w w'

theorem rfNew_of (n b g : Nat) (w : World) (h1 : 1 ≤ n) (h2 : n ≤ 4194304)
    (hb : w.heap[b]? = some (.cells #[.slice (some ⟨g, 0, none⟩) n n, .slice none 0 0, .bool false, .int .i64 0] 63 (0, 0))) (hg : BytesAt w g 5 (List.replicate n 0)) (hne : g ≠ b) : RfIn w b (.slice (some ⟨g, 0, none⟩) n n) (.slice none 0 0) (Dk.new n) where
  ok := ⟨by simp [Dk.new], by simp [Dk.new]; omega, by simp [Dk.new]; omega, by simp [Dk.new], by simp [Dk.new]⟩
  coh := rfl
  str := hb
  sure := ⟨by simp [Dk.new, byteCells_length], .inr ⟨g, n, _, by simp [Dk.new], Nat.zero_le _, hg, by simp [Dk.new], by simp only [maxLen]; omega, by simp [byteCells_length], by
    simp only [Dk.new, List.length_replicate, Nat.mul_one]
    exact List.take_of_length_le (by simp [byteCells_length])⟩⟩
  pend := ⟨by simp [Dk.new, pendC], .inl ⟨rfl, by simp [Dk.new]⟩⟩
  nes := fun k hk => by cases hk; exact hne
  nep := fun k hk => by cases hk

set_option maxRecDepth 100000 in
set_option maxHeartbeats 800000 in
theorem rNew_ok (n : Nat) (w : World) (h1 : 1 ≤ n) (h2 : n ≤ 4194304) : Calls Tryz.prog 29 #[.int .i64 n] w fun e w' => ∃ b fp, e = .returned (.tuple #[.pointer (some ⟨b, 0, none⟩), .int .i64 0]) ∧ RfA w' b fp (Dk.new n) ∧ Fr [] w w' ∧ ∀ k, k ∈ fp → w.heap.size ≤ k := by
  have hmk := fun w => run_make_row' (P := Tryz.prog) 39 5 (.int .u8 0) 1 Tryz.underlying39 infoB rfl .i64 .i64 n (by omega) (by omega) w
  go_enter Tryz.func29, Tryz.ntmps29
  go_wp2
  go_ret2
  obtain ⟨x0, x1⟩ := alloc2 w (.cells (madeCells #[Value.int .u8 0] n) 5) (.cells #[.slice (some ⟨w.heap.size, 0, none⟩) n n, .slice none 0 0, .bool false, .int .i64 0] 63)
  exact ⟨_, _, rfl, ⟨_, _, rfNew_of n _ _ _ h1 h2 x1 (by rw [BytesAt, ← madeCells_bytes]; exact x0) (by omega), rfl⟩, (Fr.alloc _ _ _).trans (Fr.alloc _ _ _), by simp [Value.ownBlock]⟩

theorem RfIn.power {w w' : World} {b : Nat} {sv pv : Value} {D : Dk} {o : Bool} {n : Nat} (h : RfIn w b sv pv D) (hf : Fr [b] w w') (hs : w'.heap[b]? = some (.cells #[sv, pv, .bool o, .int .i64 n] 63 (0, 0))) (hn : n ≤ 9223372036854775807) : RfIn w' b sv pv { D with off := o, left := n } where
  ok := ⟨h.ok.len, h.ok.pos, h.ok.max, hn, h.ok.pend⟩
  coh := h.coh
  str := hs
  sure := ownsRow_keep h.sure fun g hg => hf.block g (ownsRow_lt h.sure hg) (by simp only [List.mem_singleton]; exact h.nes g hg)
  pend := ownsRow_keep h.pend fun g hg => hf.block g (ownsRow_lt h.pend hg) (by simp only [List.mem_singleton]; exact (h.nep g hg).1)
  nes := h.nes
  nep := h.nep

theorem rfStep_in {b : Nat} {sv pv : Value} {r : Value} {D : Dk} {w w' : World} {e : Ending} {S : List Nat} (he : e = .returned r) (h : RfIn w' b sv pv D) (hf : Fr S w w') {fp : List Nat} (hS : ∀ k, k ∈ S → k ∈ fp) (hb : b ∈ fp) (h1 : ∀ g, sv.ownBlock = some g → g ∈ fp ∨ w.heap.size ≤ g) (h2 : ∀ g, pv.ownBlock = some g → g ∈ fp ∨ w.heap.size ≤ g) : RfStep b fp r D w e w' :=
  ⟨he, _, ⟨sv, pv, h, rfl⟩, hf.mono hS, fun k hk => by
    simp only [List.mem_cons, List.mem_append, Option.mem_toList] at hk
    rcases hk with rfl | hk | hk
    · exact .inl hb
    · exact h1 k hk
    · exact h2 k hk⟩

theorem rfStep_same {b : Nat} {fp : List Nat} {r : Value} {D : Dk} {w w' : World} {e : Ending} (he : e = .returned r) (h : RfA w b fp D) (hw : w = w') : RfStep b fp r D w e w' := by
  subst hw; exact ⟨he, fp, h, Upd.refl _ _⟩

set_option maxHeartbeats 800000 in
theorem rCut_dk (b : Nat) (fp : List Nat) (D : Dk) (n : Int) (w : World) (h : RfA w b fp D) (hn : n ≤ 9223372036854775807) :
    Calls Tryz.prog 57 #[.pointer (some ⟨b, 0, none⟩), .int .i64 n] w (RfStep b fp (.int .i64 (D.cutE n)) (D.cutD n) w) := by
  obtain ⟨sv, pv, h, rfl⟩ := h
  have c2 : w.cell? ⟨b, 2, none⟩ = some (.bool D.off) := cell_of_blk h.str 2
  have c3 : w.cell? ⟨b, 3, none⟩ = some (.int .i64 D.left) := cell_of_blk h.str 3
  have f2 := free_of_blk h.str 2
  have f3 := free_of_blk h.str 3
  have H := Lib.hid h; clear h
  by_cases ho : D.off = true
  · rw [ho] at c2
    rw [show D.cutE n = 91 by simp [Dk.cutE, ho], show D.cutD n = D by simp [Dk.cutD, ho]]
    go_enter Tryz.func57, Tryz.ntmps57
    go_wp2
    go_ret
    exact rfStep_same rfl ⟨sv, pv, H.out, rfl⟩ rfl
  · have ho : D.off = false := by simpa using ho
    rw [ho] at c2
    by_cases hn0 : n < 0
    · rw [show D.cutE n = 2 by simp [Dk.cutE, ho, hn0], show D.cutD n = D by simp [Dk.cutD, ho, hn0]]
      go_enter Tryz.func57, Tryz.ntmps57
      go_wp2
      go_ret
      exact rfStep_same rfl ⟨sv, pv, H.out, rfl⟩ rfl
    · rw [show D.cutE n = 0 by simp [Dk.cutE, ho, hn0], show D.cutD n = D.cut n.toNat by simp [Dk.cutD, ho, hn0]]
      obtain ⟨k, rfl⟩ := Int.eq_ofNat_of_zero_le (show 0 ≤ n by omega)
      go_enter Tryz.func57, Tryz.ntmps57
      go_wp2
      go_ret
      have hs := heap_setCell_same (i := 2) (.bool ((k : Int) == 0)) (heap_setCell_same (i := 3) (.int .i64 k) H.out.str)
      have hz : ((k : Int) == 0) = (k == 0) := by
        cases k with
        | zero => rfl
        | succ k => simp; omega
      rw [hz] at hs ⊢
      exact rfStep_in rfl (H.out.power (o := k == 0) (n := k) ((Fr.setCell _ _ (by simp)).trans (Fr.setCell _ _ (by simp))) hs (by omega)) ((Fr.setCell _ _ (by simp)).trans (Fr.setCell _ _ (by simp)) : Fr [b] _ _) (by simp) (by simp) (fun g hg => .inl (by simp [hg])) (fun g hg => .inl (by simp [hg]))

theorem rfPut {w w1 : World} {b g cap o : Nat} {sv pv : Value} {D : Dk} {s : ByteArray} {x : Obj} (h : RfIn w b sv pv D) (hs : o + s.size ≤ D.dur.length)
    (X1 : w1.ownsRow 0 97 2 (.slice (some ⟨g, 0, none⟩) (D.pend.length + 1) cap) (D.pend.length + 1) (pendC D.pend ++ [.int .i64 o, .string s])) (X2 : Fr pv.ownBlock.toList (w.alloc x) w1) (X3 : pv.ownBlock = some g ∨ g = (w.alloc x).heap.size) :
    RfIn (w1.setCell ⟨b, 1, none⟩ (.slice (some ⟨g, 0, none⟩) (D.pend.length + 1) cap)) b sv (.slice (some ⟨g, 0, none⟩) (D.pend.length + 1) cap) (D.put o s) ∧ Fr (b :: pv.ownBlock.toList) w (w1.setCell ⟨b, 1, none⟩ (.slice (some ⟨g, 0, none⟩) (D.pend.length + 1) cap)) := by
  have hbl := blk_lt h.str
  have nb : b ∉ pv.ownBlock.toList := fun hm => (h.nep b (by simpa using hm)).1 rfl
  have hgb : g ≠ b := by
    rcases X3 with e | e
    · exact (h.nep g e).1
    · simp at e; omega
  have hgs : sv.ownBlock ≠ some g := by
    rcases X3 with e | e
    · exact (h.nep g e).2
    · intro hh; have := ownsRow_lt h.sure hh; simp at e; omega
  have hfr : Fr (b :: pv.ownBlock.toList) w (w1.setCell ⟨b, 1, none⟩ (.slice (some ⟨g, 0, none⟩) (D.pend.length + 1) cap)) := ((Fr.alloc _ _ _).trans (X2.mono (by simp; exact fun _ h => .inr h))).trans (Fr.setCell _ _ (by simp))
  refine ⟨⟨h.ok.put hs, coh_put h.coh o s, ?_, ?_, ?_, h.nes, fun k hk => ?_⟩, hfr⟩
  · exact heap_setCell_same (i := 1) _ (X2.keep (heap_alloc_old _ h.str) nb)
  · refine ownsRow_keep h.sure fun k hk => hfr.block k (ownsRow_lt h.sure hk) ?_
    simp only [List.mem_cons, Option.mem_toList, not_or]
    exact ⟨h.nes k hk, fun hp => (h.nep k hp).2 hk⟩
  · have : (D.put o s).pend.length = D.pend.length + 1 := by simp [Dk.put]
    rw [this]
    simp only [Dk.put, pendC_snoc]
    exact ownsRow_keep X1 fun k hk => Below.heap_setCell _ _ _ _ (by simp [Value.ownBlock] at hk; subst hk; exact hgb)
  · simp [Value.ownBlock] at hk
    subst hk
    exact ⟨hgb, hgs⟩

set_option maxRecDepth 100000 in
set_option maxHeartbeats 2000000 in
theorem rWrite_dk (b : Nat) (fp : List Nat) (D : Dk) (off : Int) (s : ByteArray) (w : World) (h : RfA w b fp D) (ho1 : -9223372036854775808 ≤ off) (ho2 : off ≤ 9223372036854775807) (hsz : s.size ≤ 9223372036854775807) (hp : D.pend.length ≤ 4294967296) :
    Calls Tryz.prog 14 #[.pointer (some ⟨b, 0, none⟩), .int .i64 off, .string s] w (RfStep b fp (.int .i64 (D.writeE off s)) (D.writeD off s) w) := by
  obtain ⟨sv, pv, h, rfl⟩ := h
  obtain ⟨gs, cs, rfl, _, _⟩ := h.sure.form h.ok.pos
  have c0 : w.cell? ⟨b, 0, none⟩ = some (.slice (some ⟨gs, 0, none⟩) D.dur.length cs) := cell_of_blk h.str 0
  have c1 : w.cell? ⟨b, 1, none⟩ = some pv := cell_of_blk h.str 1
  have c2 : w.cell? ⟨b, 2, none⟩ = some (.bool D.off) := cell_of_blk h.str 2
  have hbl := blk_lt h.str
  have hm := h.ok.max
  have hlf := h.ok.left
  have H := Lib.hid h; clear h
  by_cases ho : D.off = true
  · rw [ho] at c2
    rw [show D.writeE off s = 91 by simp [Dk.writeE, ho], show D.writeD off s = D by simp [Dk.writeD, ho]]
    go_enter Tryz.func14, Tryz.ntmps14
    go_wp2
    go_ret
    exact rfStep_same rfl ⟨_, pv, H.out, rfl⟩ rfl
  · have ho : D.off = false := by simpa using ho
    rw [ho] at c2
    by_cases hi : insB D.dur.length off s.size = true
    · rw [show D.writeE off s = 0 by simp [Dk.writeE, ho, hi], show D.writeD off s = D.write off.toNat s by simp [Dk.writeD, ho, hi]]
      have hi2 : 0 ≤ off ∧ off + s.size ≤ D.dur.length := by simp [insB] at hi; omega
      obtain ⟨o, rfl⟩ := Int.eq_ofNat_of_zero_le hi2.1
      have hs : o + s.size ≤ D.dur.length := by omega
      clear hi hi2
      have Hs := Lib.hid hs
      have Hnew := Lib.hid (heap_alloc_new w (.cells #[.int .i64 o, .string s] 97))
      have Hrow := Lib.hid (ownsRow_keep (w' := w.alloc (.cells #[.int .i64 o, .string s] 97)) H.out.pend fun g hg => Below.heap_alloc _ _ _ (ownsRow_lt H.out.pend hg))
      have nb : b ∉ pv.ownBlock.toList := fun hm => (H.out.nep b (by simpa using hm)).1 rfl
      have Nb := Lib.hid nb; clear nb
      go_enter Tryz.func14, Tryz.ntmps14
      go_wp2_with (first | ((with_reducible refine wpList_of_wp (o := ⟨some 43, _, _, _, _, _⟩) rfl (fun K hK => ?_)); refine wp_append_blk (.tmp 38) (.tmp 42) 61 97 _ 2 24 rfl Tryz.underlying61 infoCh rfl (by decide) pv D.pend.length (pendC D.pend) rfl Hrow.out w.heap.size 1 1 #[.int .i64 o, .string s] _ _ rfl Hnew.out rfl (by simp [Value.oneCell']) (by decide) (by omega) (by omega) (fun g cap2 w9 x1 x2 x3 => hK _ _ ?_); have KB := Lib.hid (x2.keep (heap_alloc_old _ H.out.str) Nb.out); have k1 : w9.cell? ⟨b, 1, none⟩ = some pv := cell_of_blk KB.out 1; have k3 : w9.cell? ⟨b, 3, none⟩ = some (.int .i64 D.left) := cell_of_blk KB.out 3; have k2 : w9.cell? ⟨b, 2, none⟩ = some (.bool D.off) := cell_of_blk KB.out 2; have z1 := free_of_blk KB.out 1; have z2 := free_of_blk KB.out 2; have z3 := free_of_blk KB.out 3; have X := Lib.hid (rfPut H.out Hs.out x1 x2 x3); have Xg := Lib.hid x3; clear x1 x2 x3 hK K))
      all_goals
        go_ret
        have hpu : (D.put o s).left = D.left := rfl
        have hgp : ∀ k, (Value.slice (some (⟨g, 0, none⟩ : Addr)) (D.pend.length + 1) cap2).ownBlock = some k → k ∈ b :: ((Value.slice (some ⟨gs, 0, none⟩) D.dur.length cs).ownBlock.toList ++ pv.ownBlock.toList) ∨ w.heap.size ≤ k := fun k hk => by
          simp [Value.ownBlock] at hk
          subst hk
          rcases Xg.out with h | h
          · exact .inl (by simp [h])
          · exact .inr (by simp at h; omega)
        have hw : D.write ((o : Int).toNat) s = (D.put o s).use := by rw [Int.toNat_natCast]; rfl
        rw [hw]
        have hS : ∀ k, k ∈ b :: pv.ownBlock.toList → k ∈ b :: ((Value.slice (some ⟨gs, 0, none⟩) D.dur.length cs).ownBlock.toList ++ pv.ownBlock.toList) := fun k hk => by
          simp only [List.mem_cons, List.mem_append] at hk ⊢
          rcases hk with h | h
          · exact .inl h
          · exact .inr (.inr h)
      · have hl0 : ¬ D.left = 0 := by omega
        have hl1 : (D.left - 1 == 0) = true := by simp at *; omega
        have e : (D.put o s).use = { D.put o s with left := D.left - 1, off := true } := by simp only [Dk.use, hpu, hl0, if_false, hl1]
        rw [e]
        have hs1 := heap_setCell_same (i := 2) (.bool true) (heap_setCell_same (i := 3) (.int .i64 ((D.left : Int) - 1)) X.out.1.str)
        have e3 : ((D.left : Int) - 1) = ((D.left - 1 : Nat) : Int) := by omega
        rw [e3] at hs1 ⊢
        exact rfStep_in rfl (X.out.1.power (o := true) (n := D.left - 1) ((Fr.setCell _ _ (by simp)).trans (Fr.setCell _ _ (by simp))) hs1 (by omega)) (((X.out.2).trans (Fr.setCell _ _ (by simp))).trans (Fr.setCell _ _ (by simp))) hS (by simp) (fun k hk => .inl (by simp [hk])) hgp
      · have hl0 : ¬ D.left = 0 := by omega
        have hl1 : (D.left - 1 == 0) = false := by simp at *; omega
        have e : (D.put o s).use = { D.put o s with left := D.left - 1, off := false } := by simp only [Dk.use, hpu, hl0, if_false, hl1]
        rw [e]
        have hs1 := heap_setCell_same (i := 3) (.int .i64 ((D.left : Int) - 1)) X.out.1.str
        have e3 : ((D.left : Int) - 1) = ((D.left - 1 : Nat) : Int) := by omega
        have e4 : (D.put o s).off = false := ho
        rw [e4] at hs1
        rw [e3] at hs1 ⊢
        exact rfStep_in rfl (X.out.1.power (o := false) (n := D.left - 1) (Fr.setCell _ _ (by simp)) hs1 (by omega)) ((X.out.2).trans (Fr.setCell _ _ (by simp))) hS (by simp) (fun k hk => .inl (by simp [hk])) hgp
      · have hl0 : D.left = 0 := by omega
        have e : (D.put o s).use = D.put o s := by simp only [Dk.use, hpu, hl0, if_true]
        rw [e]
        exact rfStep_in rfl X.out.1 X.out.2 hS (by simp) (fun k hk => .inl (by simp [hk])) hgp
    · have hi : insB D.dur.length off s.size = false := by simpa using hi
      rw [show D.writeE off s = 90 by simp [Dk.writeE, ho, hi], show D.writeD off s = D by simp [Dk.writeD, ho, hi]]
      have hi2 : off < 0 ∨ (0 ≤ off ∧ (D.dur.length : Int) < off) ∨ (0 ≤ off ∧ off ≤ D.dur.length ∧ (D.dur.length : Int) - off < s.size) := by simp [insB] at hi; omega
      clear hi
      rcases hi2 with h | ⟨h, h'⟩ | ⟨h, h', h''⟩
      all_goals
        go_enter Tryz.func14, Tryz.ntmps14
        go_wp2
        go_ret
        exact rfStep_same rfl ⟨_, pv, H.out, rfl⟩ rfl

end Go.Proofs.YtbogljpafpkikaaGreatDoor

/-
  The reference's disk: Visible, Read, Sync, Crash.
-/
namespace Go.Proofs.YtbogljpafpkikaaGreatDoor
open Go.RowKit Go.Lib

set_option maxRecDepth 100000 in
set_option maxHeartbeats 2000000 in
theorem rVisible_c (b : Nat) (sv pv : Value) (D : Dk) (w : World) (h : RfIn w b sv pv D) (hp : D.pend.length ≤ 4294967296) :
    Calls Tryz.prog 21 #[.pointer (some ⟨b, 0, none⟩)] w fun e w' => ∃ g cap, e = .returned (.slice (some ⟨g, 0, none⟩) D.dur.length cap) ∧ w'.ownsRow 0 5 1 (.slice (some ⟨g, 0, none⟩) D.dur.length cap) D.dur.length (byteCells D.vis) ∧ Fr [] w w' ∧ w.heap.size ≤ g := by
  obtain ⟨gs, cs, rfl, _, _⟩ := h.sure.form h.ok.pos
  have c0 : w.cell? ⟨b, 0, none⟩ = some (.slice (some ⟨gs, 0, none⟩) D.dur.length cs) := cell_of_blk h.str 0
  have hbl := blk_lt h.str
  have hm := h.ok.max
  have H := Lib.hid h; clear h
  have Hsrc := Lib.hid (srcAt_of_row (ownsRow_keep (w' := w.alloc (.cells #[] 5)) H.out.sure fun g hg => Below.heap_alloc _ _ _ (ownsRow_lt H.out.sure hg)))
  have Hone : Hid (∀ u, u ∈ byteCells D.dur → u.oneCell' = true) := Lib.hid fun u hu => by
    obtain ⟨x, _, rfl⟩ := List.mem_map.1 hu
    rfl
  have Hlen : Hid ((byteCells D.dur).length = D.dur.length * 1) := Lib.hid (by simp [byteCells_length])
  have hpos := H.out.ok.pos
  have Hlp : Hid (∀ k, k ≤ D.pend.length → ((D.pend.take k).foldl apply1 D.dur).length = D.dur.length) := Lib.hid fun k hk => by
    have hpe := H.out.ok.pend
    induction k with
    | zero => rfl
    | succ k ih =>
      rw [List.take_succ_eq_append_getElem (by omega), List.foldl_append]
      simp only [List.foldl_cons, List.foldl_nil, apply1]
      rw [paste_length, ih (by omega)]
      rw [ih (by omega)]
      have := hpe _ (List.getElem_mem (show k < D.pend.length by omega))
      simpa using this
  go_enter Tryz.func21, Tryz.ntmps21
  go_wp2_with (first | ((with_reducible refine wpList_of_wp (o := ⟨some 10, _, _, _, _, _⟩) rfl (fun K hK => ?_)); refine wp_append_src (.tmp 5) (.tmp 9) 39 5 (.int .u8 0) 1 1 rfl Tryz.underlying39 infoB rfl (by decide) (.slice (some ⟨w.heap.size, 0, none⟩) 0 0) 0 [] rfl (World.ownsRow_lit w #[] 0 (Nat.zero_le _) (by decide) rfl) _ D.dur.length _ rfl Hsrc.out Hlen.out Hone.out (by omega) (by omega) (fun ga cap2 w9 x1 x2 x3 => ?_); obtain ⟨g, cap3, hv, _, hlt⟩ := x1.form (by omega); cases hv; simp only [Nat.zero_add, List.nil_append] at x1 x3 ⊢; have X1 := Lib.hid x1; have X2 := Lib.hid x2; have X3 := Lib.hid x3; clear x1 x2 x3; refine hK _ _ ?_; clear hK K))
  go_loopw [4] (fun i wr => ∃ k : Nat, k ≤ D.pend.length ∧ i = .int .i64 k ∧ Hid (Fr [] w wr) ∧ Hid (wr.ownsRow 0 5 1 (.slice (some ⟨g, 0, none⟩) D.dur.length cap2) D.dur.length (byteCells ((D.pend.take k).foldl apply1 D.dur)))) (fun i _ => D.pend.length - (intOf i).toNat)
  case atStart => exact ⟨0, Nat.zero_le _, rfl, Lib.hid ((Fr.alloc _ _ _).step X2.out (fun i hi => by simp [Value.ownBlock] at hi; exact .inr (by omega))), X1⟩
  case round =>
    obtain ⟨k, hk, rfl, HF, HB⟩ := hrel
    have hgw : w.heap.size ≤ g := by
      rcases X3.out with h | h <;> simp [Value.ownBlock] at h <;> omega
    have HI := Lib.hid (H.out.keep (w' := wr) (fun q hq => HF.out.block q (H.out.fp_lt q hq) (by simp)))
    obtain ⟨pa, pc, rfl⟩ := ownsRow_slice H.out.pend
    have c1 : wr.cell? ⟨b, 1, none⟩ = some (.slice pa D.pend.length pc) := cell_of_blk HI.out.str 1
    by_cases hlt : k < D.pend.length
    · obtain ⟨gp, cp, hv, _, _⟩ := HI.out.pend.form (by omega)
      cases hv
      obtain ⟨g', c', hv, p1, p2⟩ := pend_cells HI.out.pend k hlt
      cases hv
      have hpk := H.out.ok.pend _ (List.getElem_mem hlt)
      have HT : Hid (D.pend.take (k + 1) = D.pend.take k ++ [D.pend[k]]) := Lib.hid (List.take_succ_eq_append_getElem hlt)
      have hne1 : b ≠ g := by omega
      have hne2 : gp ≠ g := by have := ownsRow_lt H.out.pend (g := gp) rfl; omega
      generalize D.pend[k] = q at *
      obtain ⟨o, s⟩ := q
      simp only at p1 p2 hpk
      have Hpk := Lib.hid hpk
      have hlen := Hlp.out k (by omega)
      have CA : Hid (Calls Tryz.prog 49 #[.slice (some ⟨g, 0, none⟩) D.dur.length cap2, .int .i64 o, .string s] wr.drew fun e w' => e = .returned (.tuple #[]) ∧ Fr [g] wr w' ∧ w'.ownsRow 0 5 1 (.slice (some ⟨g, 0, none⟩) D.dur.length cap2) D.dur.length (byteCells ((D.pend.take (k + 1)).foldl apply1 D.dur)) ∧ (w'.cell? ⟨b, 1, none⟩ = some (.slice (some ⟨gp, 0, none⟩) D.pend.length pc) ∧ w'.cell? ⟨gp, k * 2, none⟩ = some (.int .i64 o) ∧ w'.cell? ⟨gp, k * 2 + 1, none⟩ = some (.string s))) := Lib.hid
        ((rapply_c g D.dur.length cap2 o s _ wr.drew HB.out hpk hm).mono fun e w' ⟨h1, h2, h3⟩ => ⟨h1, (Fr.drew _ _).trans h2, by
          rw [HT.out, List.foldl_append]
          exact h3, (World.cell?_of_block (h2.block b (blk_lt HI.out.str) (by simpa using hne1))).trans c1, (World.cell?_of_block (h2.block gp (World.block_lt_of_cell? wr _ p1) (by simpa using hne2))).trans p1, (World.cell?_of_block (h2.block gp (World.block_lt_of_cell? wr _ p1) (by simpa using hne2))).trans p2⟩)
      clear hpk hlen
      go_wp2_with fail
      go_region_held3 (fun W' : World => W'.cell? ⟨b, 1, none⟩ = some (.slice (some ⟨gp, 0, none⟩) D.pend.length pc) ∧ W'.cell? ⟨gp, k * 2, none⟩ = some (.int .i64 o) ∧ W'.cell? ⟨gp, k * 2 + 1, none⟩ = some (.string s)) (first | exact ⟨c1, p1, p2⟩ | assumption) (first | (go_at_call 49; refine CA.out.mono ?_; rintro e w5 ⟨rfl, f5, b5, s5⟩))
      have f0 := HF.out.step f5 (fun i hi => by simp at hi; exact .inr (by omega))
      clear s5
      go_wp2
      go_roundw
      case rel => exact ⟨k + 1, by omega, by go_num, Lib.hid f0, Lib.hid b5⟩
      case measure => simp [intOf]; omega
    · obtain rfl : k = D.pend.length := by omega
      go_wp2
      go_ret
      refine ⟨g, cap2, rfl, ?_, HF.out, hgw⟩
      have := HB.out
      rw [List.take_length, ← H.out.coh] at this
      exact this

/-- string(b) of a part of a row of bytes. -/
theorem wp_bytes_row {P : Program} {w : World} {o : Oper} {a : Act} {K : Act → World → Prop} {Q : Exit → Act → World → Prop} (x : Operand) (src dst e : TypeId) (ho : o.op = .convert src dst x)
    (hs : P.underlying src = some (.slice e)) (he : P.underlying e = some (.int .u8)) (hd : P.underlying dst = some .string)
    (g off n cap m c : Nat) (l : List UInt8) (e' : TypeId) (hx : a.eval x = .slice (some ⟨g, off, none⟩) n cap) (hb : w.ownsRow 0 e' 1 (.slice (some ⟨g, 0, none⟩) m c) m (byteCells l)) (hfit : off + n ≤ m)
    (h : K (a.put o.dst (.string ⟨((l.drop off).take n).toArray⟩)) w) : o.wp P a w K Q := by
  have hlm : l.length = m := by have := hb.1; simpa [byteCells_length] using this
  have hlen : ((l.drop off).take n).length = n := by simp; omega
  have hrun := run_convert_bytes_back (P := P) w src dst e ⟨g, off, none⟩ cap ((l.drop off).take n) hs he hd (fun j hj => by
    have hj' : j < n := by rw [hlen] at hj; exact hj
    have ha : (⟨g, off, none⟩ : Addr).add j = ⟨g, off + j, none⟩ := by
      unfold Addr.add; split
      · rename_i h0; simp only [h0, Nat.add_zero]
      · rfl
    rw [ha, (row_cell1 hb (by omega)).1]
    have h2 : off + j < l.length := by omega
    simp [byteCells, List.getElem?_map, List.getElem?_eq_getElem h2])
  rw [hlen] at hrun
  unfold Oper.wp execOp
  simp only [ho, Sem.run_bind, Sem.run_pure, Result.andThen_ok, hx, hrun]
  exact h

set_option maxRecDepth 100000 in
set_option maxHeartbeats 2000000 in
theorem rRead_dk (b : Nat) (fp : List Nat) (D : Dk) (off n : Int) (w : World) (h : RfA w b fp D) (ho1 : -9223372036854775808 ≤ off) (ho2 : off ≤ 9223372036854775807) (hn1 : -9223372036854775808 ≤ n) (hn2 : n ≤ 9223372036854775807) (hp : D.pend.length ≤ 4294967296) :
    Calls Tryz.prog 67 #[.pointer (some ⟨b, 0, none⟩), .int .i64 off, .int .i64 n] w fun e w' => e = .returned (.tuple #[.string ⟨(D.readS off n).toArray⟩, .int .i64 (D.readE off n)]) ∧ Fr [] w w' := by
  obtain ⟨sv, pv, h, rfl⟩ := h
  have CV := Lib.hid (rVisible_c b sv pv D w h hp)
  obtain ⟨gs, cs, rfl, _, _⟩ := h.sure.form h.ok.pos
  have c0 : w.cell? ⟨b, 0, none⟩ = some (.slice (some ⟨gs, 0, none⟩) D.dur.length cs) := cell_of_blk h.str 0
  have c2 : w.cell? ⟨b, 2, none⟩ = some (.bool D.off) := cell_of_blk h.str 2
  have hm := h.ok.max
  clear h
  by_cases ho : D.off = true
  · rw [ho] at c2
    rw [show D.readS off n = [] by simp [Dk.readS, ho], show D.readE off n = 91 by simp [Dk.readE, ho]]
    go_enter Tryz.func67, Tryz.ntmps67
    go_wp2
    go_ret2
    exact ⟨rfl, Fr.refl _ _⟩
  · have ho : D.off = false := by simpa using ho
    rw [ho] at c2
    by_cases hi : insB D.dur.length off n = true
    · rw [show D.readS off n = (D.vis.drop off.toNat).take n.toNat by simp [Dk.readS, ho, hi], show D.readE off n = 0 by simp [Dk.readE, ho, hi]]
      have hi2 : 0 ≤ off ∧ 0 ≤ n ∧ off + n ≤ D.dur.length := by simp [insB] at hi; omega
      obtain ⟨o, rfl⟩ := Int.eq_ofNat_of_zero_le hi2.1
      obtain ⟨k, rfl⟩ := Int.eq_ofNat_of_zero_le hi2.2.1
      have hs : o + k ≤ D.dur.length := by omega
      clear hi hi2
      go_enter Tryz.func67, Tryz.ntmps67
      go_wp2_with fail
      refine CV.out.mono ?_
      rintro e w1 ⟨g, cap, rfl, x1, f1, hg⟩
      have X1 := Lib.hid x1
      have hcap : D.dur.length ≤ cap := by
        rcases x1.2 with ⟨h, _⟩ | ⟨_, _, _, h, _, _, h2, _⟩
        · cases h
        · cases h; exact h2
      have hcap2 : cap ≤ 9223372036854775807 := by
        rcases x1.2 with ⟨h, _⟩ | ⟨_, _, _, h, _, _, _, h2, _⟩
        · cases h
        · cases h; exact h2
      clear x1
      by_cases he : cap = o
      · subst he
        have hk0 : k = 0 := by omega
        subst hk0
        go_wp2_with (first | ((with_reducible refine wpList_of_wp (o := ⟨some 45, _, _, _, _, _⟩) rfl (fun K hK => ?_)); refine (wp_bytes_row (.tmp 44) 39 9 5 rfl Tryz.underlying39 Tryz.underlying5 Tryz.underlying9 g 0 0 0 D.dur.length cap D.vis 5 rfl X1.out (by omega) (hK _ _ ?_))))
        go_ret2
        exact ⟨by simp, f1⟩
      · go_wp2_with (first | ((with_reducible refine wpList_of_wp (o := ⟨some 45, _, _, _, _, _⟩) rfl (fun K hK => ?_)); refine (wp_bytes_row (.tmp 44) 39 9 5 rfl Tryz.underlying39 Tryz.underlying5 Tryz.underlying9 g o (o + k - o) (cap - o) D.dur.length cap D.vis 5 rfl X1.out (by omega) (hK _ _ ?_))))
        go_ret2
        exact ⟨by simp, f1⟩
    · have hi : insB D.dur.length off n = false := by simpa using hi
      rw [show D.readS off n = [] by simp [Dk.readS, hi], show D.readE off n = 90 by simp [Dk.readE, ho, hi]]
      have hi2 : off < 0 ∨ (0 ≤ off ∧ n < 0) ∨ (0 ≤ off ∧ 0 ≤ n ∧ (D.dur.length : Int) < off) ∨ (0 ≤ off ∧ 0 ≤ n ∧ off ≤ D.dur.length ∧ (D.dur.length : Int) - off < n) := by simp [insB] at hi; omega
      clear hi
      rcases hi2 with h | ⟨h, h'⟩ | ⟨h, h', h''⟩ | ⟨h, h', h'', h'''⟩
      all_goals
        go_enter Tryz.func67, Tryz.ntmps67
        go_wp2_with fail
        go_ret2
        exact ⟨rfl, Fr.refl _ _⟩

theorem rfSync_in {w w1 w2 : World} {b g cap : Nat} {sv pv : Value} {D : Dk} (h : RfIn w b sv pv D) (x1 : w1.ownsRow 0 5 1 (.slice (some ⟨g, 0, none⟩) D.dur.length cap) D.dur.length (byteCells D.vis)) (_hf : Fr [] w w1) (hg : w.heap.size ≤ g)
    (hs : w2.heap[b]? = some (.cells #[.slice (some ⟨g, 0, none⟩) D.dur.length cap, .slice none 0 0, .bool D.off, .int .i64 D.left] 63 (0, 0))) (hf2 : Fr [b] w1 w2) : RfIn w2 b (.slice (some ⟨g, 0, none⟩) D.dur.length cap) (.slice none 0 0) D.sync := by
  have hbl := blk_lt h.str
  have e : D.sync.dur.length = D.dur.length := h.ok.len
  refine ⟨⟨rfl, by rw [e]; exact h.ok.pos, by rw [e]; exact h.ok.max, h.ok.left, by simp [Dk.sync]⟩, coh_sync D, hs, ?_, ⟨by simp [Dk.sync, pendC], .inl ⟨rfl, by simp [Dk.sync]⟩⟩, fun k hk => ?_, fun k hk => by cases hk⟩
  · rw [e]
    exact ownsRow_keep x1 fun k hk => hf2.block k (ownsRow_lt x1 hk) (by simp [Value.ownBlock] at hk; simp; omega)
  · simp [Value.ownBlock] at hk; omega

set_option maxRecDepth 100000 in
set_option maxHeartbeats 2000000 in
theorem rSync_dk (b : Nat) (fp : List Nat) (D : Dk) (w : World) (h : RfA w b fp D) (hp : D.pend.length ≤ 4294967296) :
    Calls Tryz.prog 41 #[.pointer (some ⟨b, 0, none⟩)] w (RfStep b fp (.int .i64 D.syncE) D.syncD w) := by
  obtain ⟨sv, pv, h, rfl⟩ := h
  have CV := Lib.hid (rVisible_c b sv pv D w h hp)
  have c2 : w.cell? ⟨b, 2, none⟩ = some (.bool D.off) := cell_of_blk h.str 2
  have H := Lib.hid h; clear h
  by_cases ho : D.off = true
  · rw [ho] at c2
    rw [show D.syncE = 91 by simp [Dk.syncE, ho], show D.syncD = D by simp [Dk.syncD, ho]]
    go_enter Tryz.func41, Tryz.ntmps41
    go_wp2
    go_ret
    exact rfStep_same rfl ⟨sv, pv, H.out, rfl⟩ rfl
  · have ho : D.off = false := by simpa using ho
    rw [ho] at c2
    rw [show D.syncE = 0 by simp [Dk.syncE, ho], show D.syncD = D.sync by simp [Dk.syncD, ho]]
    go_enter Tryz.func41, Tryz.ntmps41
    go_wp2_with fail
    refine CV.out.mono ?_
    rintro e w1 ⟨g, cap, rfl, x1, f1, hg⟩
    have KB := Lib.hid (f1.keep H.out.str (by simp))
    have X1 := Lib.hid x1; have F1 := Lib.hid f1; clear x1 f1 CV
    have k0 : w1.cell? ⟨b, 0, none⟩ = some sv := cell_of_blk KB.out 0
    have k1 : w1.cell? ⟨b, 1, none⟩ = some pv := cell_of_blk KB.out 1
    have z0 := free_of_blk KB.out 0
    have z1 := free_of_blk KB.out 1
    go_wp2
    go_ret
    have hs := heap_setCell_same (i := 1) (.slice none 0 0) (heap_setCell_same (i := 0) (.slice (some ⟨g, 0, none⟩) D.dur.length cap) KB.out)
    have f2 : Fr [b] w1 ((w1.setCell ⟨b, 0, none⟩ (.slice (some ⟨g, 0, none⟩) D.dur.length cap)).setCell ⟨b, 1, none⟩ (.slice none 0 0)) := (Fr.setCell _ _ (by simp)).trans (Fr.setCell _ _ (by simp))
    exact rfStep_in rfl (rfSync_in H.out X1.out F1.out hg hs f2) ((F1.out.mono (by simp)).trans f2) (by simp) (by simp) (fun k hk => .inr (by simp [Value.ownBlock] at hk; omega)) (fun k hk => by cases hk)

end Go.Proofs.YtbogljpafpkikaaGreatDoor

/-
  The reference's disk: Crash.
-/
namespace Go.Proofs.YtbogljpafpkikaaGreatDoor
open Go.RowKit Go.Lib

/-- The world in the first loop: the kept writes lie in a row of the call's own. -/
structure RcAt (w : World) (D : Dk) (kp : Nat → Bool) (k : Nat) (v : Value) (wr : World) : Prop where
  fr : Fr [] w wr
  row : wr.ownsRow 0 97 2 v (keptP D.pend kp k).length (pendC (keptP D.pend kp k))
  new : ∀ g, v.ownBlock = some g → w.heap.size ≤ g

theorem RcAt.app {w wr w9 : World} {D : Dk} {kp : Nat → Bool} {k o : Nat} {s : ByteArray} {v : Value} {g cap : Nat} {x : Obj} (h : RcAt w D kp k v wr) (he : keptP D.pend kp (k + 1) = keptP D.pend kp k ++ [(o, s)])
    (X1 : w9.ownsRow 0 97 2 (.slice (some ⟨g, 0, none⟩) ((keptP D.pend kp k).length + 1) cap) ((keptP D.pend kp k).length + 1) (pendC (keptP D.pend kp k) ++ [.int .i64 o, .string s])) (X2 : Fr v.ownBlock.toList (wr.alloc x) w9) (X3 : v.ownBlock = some g ∨ g = (wr.alloc x).heap.size) :
    RcAt w D kp (k + 1) (.slice (some ⟨g, 0, none⟩) ((keptP D.pend kp k).length + 1) cap) w9 := by
  refine ⟨(h.fr.trans (Fr.alloc _ _ _)).step X2 (fun i hi => .inr (h.new i (by simpa using hi))), ?_, fun q hq => ?_⟩
  · rw [he, pendC_snoc]
    simpa using X1
  · simp [Value.ownBlock] at hq
    subst hq
    rcases X3 with h3 | h3
    · exact h.new _ h3
    · have := h.fr.size; simp at h3; omega

/-- What is applied of a survivor. -/
def tornS (torn : Int) (last : Prop) [Decidable last] (s : ByteArray) : ByteArray := if last ∧ 0 ≤ torn ∧ torn < s.size then s.extract 0 torn.toNat else s

set_option maxRecDepth 1000000 in
set_option maxHeartbeats 8000000 in
theorem rCrash_dk (b : Nat) (fp : List Nat) (D : Dk) (ka : Option Addr) (kcap : Nat) (keep : List Int) (torn : Int) (w : World) (h : RfA w b fp D) (hr : RowI w ka kcap keep) (ht1 : -9223372036854775808 ≤ torn) (ht2 : torn ≤ 9223372036854775807) (hp : D.pend.length ≤ 4294967296) :
    Calls Tryz.prog 59 #[.pointer (some ⟨b, 0, none⟩), .slice ka keep.length kcap, .int .i64 torn] w (RfStep b fp (.tuple #[]) (D.crash keep torn) w) := by
  obtain ⟨sv, pv, h, rfl⟩ := h
  have hcr : Hid (D.crash keep torn = ⟨false, 0, crashTo D (keptI (fun i => keep.contains (i : Int)) D.pend.length) torn (keptP D.pend (fun i => keep.contains (i : Int)) D.pend.length).length, crashTo D (keptI (fun i => keep.contains (i : Int)) D.pend.length) torn (keptP D.pend (fun i => keep.contains (i : Int)) D.pend.length).length, []⟩) := Lib.hid (by
    unfold Dk.crash
    rw [survL_eq, keptP_len])
  have CH : Hid (∀ (wr : World) (k : Nat), Fr [] w wr → Calls Tryz.prog 87 #[.slice ka keep.length kcap, .int .i64 k] wr fun e w' => e = .returned (.bool (keep.contains (k : Int))) ∧ wr = w') := Lib.hid fun wr k hf => rhas_c ka kcap keep k wr (hr.keep hf.below)
  have hlen : Hid (∀ j, j ≤ (keptP D.pend (fun i => keep.contains (i : Int)) D.pend.length).length → (crashTo D (keptI (fun i => keep.contains (i : Int)) D.pend.length) torn j).length = D.dur.length) := Lib.hid fun j hj => by
    have := crashTo_length h.ok keep torn j (by rw [survL_eq, ← keptP_len D.pend]; exact hj)
    rw [survL_eq] at this
    exact this
  have hfit : Hid (∀ j, j < (keptP D.pend (fun i => keep.contains (i : Int)) D.pend.length).length → (survS D.pend (keptI (fun i => keep.contains (i : Int)) D.pend.length) torn j).1 + (survS D.pend (keptI (fun i => keep.contains (i : Int)) D.pend.length) torn j).2.size ≤ D.dur.length) := Lib.hid fun j hj => by
    have := survS_fits h.ok (keep := keep) (torn := torn) (j := j) (by rw [survL_eq, ← keptP_len D.pend]; exact hj)
    rw [survL_eq] at this
    exact this
  have hss : Hid (∀ j (hj : j < (keptP D.pend (fun i => keep.contains (i : Int)) D.pend.length).length), _) := Lib.hid fun j hj => survS_kept D.pend (fun i => keep.contains (i : Int)) D.pend.length torn j hj
  have hkl : Hid (∀ k, (keptP D.pend (fun i => keep.contains (i : Int)) k).length ≤ k) := Lib.hid fun k => by rw [keptP_len]; exact keptI_len _ _
  rw [hcr.out]
  clear hr hcr
  generalize hkp : (fun (i : Nat) => keep.contains (i : Int)) = kp at *
  have Hkp : Hid (∀ k : Nat, keep.contains (k : Int) = kp k) := Lib.hid fun k => by rw [← hkp]
  clear hkp
  obtain ⟨gs, cs, rfl, _, _⟩ := h.sure.form h.ok.pos
  obtain ⟨pa, pc, rfl⟩ := ownsRow_slice h.pend
  have hm := h.ok.max
  have hbl := blk_lt h.str
  have H := Lib.hid h; clear h
  go_enter Tryz.func59, Tryz.ntmps59
  go_wp2
  go_loopw [6, 7] (fun v i wr => ∃ k : Nat, k ≤ D.pend.length ∧ i = .int .i64 k ∧ Hid (RcAt w D kp k v wr)) (fun _ i _ => D.pend.length - (intOf i).toNat)
  case atStart => exact ⟨0, Nat.zero_le _, rfl, Lib.hid ⟨Fr.refl _ _, ⟨by simp [keptP, keptI, pendC], .inl ⟨rfl, by simp [keptP, keptI]⟩⟩, fun g hg => by cases hg⟩⟩
  case round =>
    obtain ⟨k, hk, rfl, HA⟩ := hrel
    obtain ⟨va, vc, rfl⟩ := ownsRow_slice HA.out.row
    have hke := hkl.out k
    have HI := Lib.hid (H.out.keep (w' := wr) (fun q hq => HA.out.fr.block q (H.out.fp_lt q hq) (by simp)))
    have c1 : wr.cell? ⟨b, 1, none⟩ = some (.slice pa D.pend.length pc) := cell_of_blk HI.out.str 1
    by_cases hlt : k < D.pend.length
    · have ch := CH.out wr k HA.out.fr
      rw [Hkp.out] at ch
      obtain ⟨gp, c', hv, p1, p2⟩ := pend_cells HI.out.pend k hlt
      have EP : Hid (kp k = true → keptP D.pend kp (k + 1) = keptP D.pend kp k ++ [D.pend[k]]) := Lib.hid (keptP_pos D.pend kp k hlt)
      have EN : Hid (kp k = false → keptP D.pend kp (k + 1) = keptP D.pend kp k) := Lib.hid (keptP_neg D.pend kp k)
      cases hv
      generalize D.pend[k] = q at *
      obtain ⟨o, s⟩ := q
      simp only at p1 p2
      cases hb : kp k
      · rw [hb] at ch
        have CHk := Lib.hid ch; clear ch
        go_wp2_with (first | (go_at_call 87; refine CHk.out.mono ?_; rintro e w1 ⟨rfl, rfl⟩))
        go_roundw
        case rel => exact ⟨k + 1, by omega, by go_num, Lib.hid ⟨HA.out.fr, by rw [EN.out hb]; exact HA.out.row, HA.out.new⟩⟩
        case measure => simp [intOf]; omega
      · rw [hb] at ch
        have CHk := Lib.hid ch; clear ch
        have Hnew := Lib.hid (heap_alloc_new wr (.cells #[.int .i64 o, .string s] 97))
        have Hrow := Lib.hid (ownsRow_keep (w' := wr.alloc (.cells #[.int .i64 o, .string s] 97)) HA.out.row fun g hg => Below.heap_alloc _ _ _ (ownsRow_lt HA.out.row hg))
        go_wp2_with (first | (go_at_call 87; refine CHk.out.mono ?_; rintro e w1 ⟨rfl, rfl⟩) | ((with_reducible refine wpList_of_wp (o := ⟨some 31, _, _, _, _, _⟩) rfl (fun K hK => ?_)); refine wp_append_blk (.tmp 22) (.tmp 30) 61 97 _ 2 24 rfl Tryz.underlying61 infoCh rfl (by decide) (.slice va (keptP D.pend kp k).length vc) (keptP D.pend kp k).length (pendC (keptP D.pend kp k)) rfl Hrow.out wr.heap.size 1 1 #[.int .i64 o, .string s] _ _ rfl Hnew.out rfl (by simp [Value.oneCell']) (by decide) (by omega) (by omega) (fun g cap2 w9 x1 x2 x3 => hK _ _ ?_); have X := Lib.hid (HA.out.app (EP.out hb) x1 x2 x3); clear x1 x2 x3 hK K))
        go_roundw
        case rel => exact ⟨k + 1, by omega, by go_num, X⟩
        case measure => simp [intOf]; omega
    · obtain rfl : k = D.pend.length := by omega
      have ES : Hid (∀ j (hj : j < (keptP D.pend kp D.pend.length).length), crashTo D (keptI kp D.pend.length) torn (j + 1) = paste (crashTo D (keptI kp D.pend.length) torn j) (keptP D.pend kp D.pend.length)[j].1 (tornS torn (j + 1 = (keptP D.pend kp D.pend.length).length) (keptP D.pend kp D.pend.length)[j].2).data.toList) := Lib.hid fun j hj => by
        rw [crashTo, hss.out j hj]
        rfl
      have EF : Hid (∀ j (hj : j < (keptP D.pend kp D.pend.length).length), (keptP D.pend kp D.pend.length)[j].1 + (tornS torn (j + 1 = (keptP D.pend kp D.pend.length).length) (keptP D.pend kp D.pend.length)[j].2).size ≤ D.dur.length) := Lib.hid fun j hj => by
        have := hfit.out j hj
        rw [hss.out j hj] at this
        exact this
      have E0 : Hid (crashTo D (keptI kp D.pend.length) torn 0 = D.dur) := Lib.hid rfl
      have R1 := Lib.hid HA.out.row
      have F1 := Lib.hid HA.out.fr
      have N1 := Lib.hid HA.out.new
      clear HA hss hfit CH hkl
      generalize keptP D.pend kp D.pend.length = L at *
      generalize crashTo D (keptI kp D.pend.length) torn = ct at *
      have ngs := H.out.nes gs rfl
      have hgl := ownsRow_lt HI.out.sure (g := gs) rfl
      have hgl0 := ownsRow_lt H.out.sure (g := gs) rfl
      have W1 : Hid (wr.ownsRow 0 5 1 (.slice (some ⟨gs, 0, none⟩) D.dur.length cs) D.dur.length (byteCells (ct 0))) := Lib.hid (by rw [E0.out]; exact HI.out.sure)
      obtain ⟨w4, hw4⟩ : ∃ w4, w4 = wr := ⟨wr, rfl⟩
      subst hw4
      have hLl : L.length ≤ 4294967296 := by omega
      go_wp2
      go_loopw [8] (fun i wr => ∃ k : Nat, k ≤ L.length ∧ i = .int .i64 k ∧ Hid (Fr [gs] w4 wr) ∧ Hid (wr.ownsRow 0 5 1 (.slice (some ⟨gs, 0, none⟩) D.dur.length cs) D.dur.length (byteCells (ct k)))) (fun i _ => L.length - (intOf i).toNat)
      case atStart => exact ⟨0, Nat.zero_le _, rfl, Lib.hid (Fr.refl _ _), W1⟩
      case round =>
        obtain ⟨k, hk, rfl, HF, HB⟩ := hrel
        have KB := Lib.hid (HF.out.keep HI.out.str (by simp only [List.mem_singleton]; exact fun e => ngs e.symm))
        by_cases hlt : k < L.length
        · obtain ⟨gv, c', hv, p1, p2⟩ := pend_cells R1.out k hlt
          cases hv
          have hgv := N1.out gv rfl
          have hne : gv ≠ gs := by omega
          have q1 : wr.cell? ⟨gv, k * 2, none⟩ = some (.int .i64 (L[k]).1) := (World.cell?_of_block (HF.out.block gv (World.block_lt_of_cell? w4 _ p1) (by simpa using hne))).trans p1
          have q2 : wr.cell? ⟨gv, k * 2 + 1, none⟩ = some (.string (L[k]).2) := (World.cell?_of_block (HF.out.block gv (World.block_lt_of_cell? w4 _ p1) (by simpa using hne))).trans p2
          have d0 : wr.cell? ⟨b, 0, none⟩ = some (.slice (some ⟨gs, 0, none⟩) D.dur.length cs) := cell_of_blk KB.out 0
          have es := ES.out k hlt
          have ef := EF.out k hlt
          clear p1 p2
          generalize L[k] = q at *
          obtain ⟨o, s⟩ := q
          simp only at q1 q2 es ef
          have CA : Hid (∀ s', tornS torn (k + 1 = L.length) s = s' → Calls Tryz.prog 49 #[.slice (some ⟨gs, 0, none⟩) D.dur.length cs, .int .i64 o, .string s'] wr.drew fun e w' => e = .returned (.tuple #[]) ∧ Fr [gs] w4 w' ∧ w'.ownsRow 0 5 1 (.slice (some ⟨gs, 0, none⟩) D.dur.length cs) D.dur.length (byteCells (ct (k + 1))) ∧ (w'.cell? ⟨b, 0, none⟩ = some (.slice (some ⟨gs, 0, none⟩) D.dur.length cs) ∧ w'.cell? ⟨gv, k * 2, none⟩ = some (.int .i64 o))) := Lib.hid fun s' hs' => by
            rw [hs'] at es ef
            refine (rapply_c gs D.dur.length cs o s' _ wr.drew HB.out ef hm).mono fun e w' ⟨h1, h2, h3⟩ => ⟨h1, HF.out.trans ((Fr.drew _ _).trans h2), by rw [es]; exact h3, ?_, ?_⟩
            · exact (World.cell?_of_block (h2.block b (blk_lt KB.out) (by simp only [List.mem_singleton]; exact fun e => ngs e.symm))).trans d0
            · exact (World.cell?_of_block (h2.block gv (World.block_lt_of_cell? wr _ q1) (by simpa using hne))).trans q1
          clear es ef
          have hlen1 : (1 : Int) ≤ L.length := by omega
          have hcase : (k + 1 = L.length ∧ 0 ≤ torn ∧ torn < s.size) ∨ (k + 1 = L.length ∧ 0 ≤ torn ∧ (s.size : Int) ≤ torn) ∨ (k + 1 = L.length ∧ torn < 0) ∨ ¬ (k + 1 = L.length) := by omega
          have hdt : k + 1 = L.length → ((k : Int) == (L.length : Int) - 1) = true := fun h => by simp; omega
          have hdf : ¬ (k + 1 = L.length) → ((k : Int) == (L.length : Int) - 1) = false := fun h => by simp; omega
          rcases hcase with ⟨h1, h2, h3⟩ | ⟨h1, h2, h3⟩ | ⟨h1, h2⟩ | h1
          · obtain ⟨tn, rfl⟩ := Int.eq_ofNat_of_zero_le h2
            have CA' := Lib.hid (CA.out (s.extract 0 tn) (by simp [tornS, h1, h3]))
            have hd := hdt h1
            have h4 : tn ≤ s.size := by omega
            clear CA h1 hdt hdf
            go_wp2_with fail
            go_region_held3 (fun W' : World => W'.cell? ⟨b, 0, none⟩ = some (.slice (some ⟨gs, 0, none⟩) D.dur.length cs) ∧ W'.cell? ⟨gv, k * 2, none⟩ = some (.int .i64 o)) (first | exact ⟨d0, q1⟩ | assumption) (first | (go_at_call 49; refine CA'.out.mono ?_; rintro e w5 ⟨rfl, f5, b5, s5⟩))
            clear s5
            go_wp2
            go_roundw
            case rel => exact ⟨k + 1, by omega, by go_num, Lib.hid f5, Lib.hid b5⟩
            case measure => simp [intOf]; omega
          · have CA' := Lib.hid (CA.out s (by simp only [tornS]; rw [if_neg]; omega))
            have hd := hdt h1
            clear CA h1 hdt hdf
            go_wp2_with fail
            go_region_held3 (fun W' : World => W'.cell? ⟨b, 0, none⟩ = some (.slice (some ⟨gs, 0, none⟩) D.dur.length cs) ∧ W'.cell? ⟨gv, k * 2, none⟩ = some (.int .i64 o)) (first | exact ⟨d0, q1⟩ | assumption) (first | (go_at_call 49; refine CA'.out.mono ?_; rintro e w5 ⟨rfl, f5, b5, s5⟩))
            clear s5
            go_wp2
            go_roundw
            case rel => exact ⟨k + 1, by omega, by go_num, Lib.hid f5, Lib.hid b5⟩
            case measure => simp [intOf]; omega
          · have CA' := Lib.hid (CA.out s (by simp only [tornS]; rw [if_neg]; omega))
            have hd := hdt h1
            clear CA h1 hdt hdf
            go_wp2_with fail
            go_region_held3 (fun W' : World => W'.cell? ⟨b, 0, none⟩ = some (.slice (some ⟨gs, 0, none⟩) D.dur.length cs) ∧ W'.cell? ⟨gv, k * 2, none⟩ = some (.int .i64 o)) (first | exact ⟨d0, q1⟩ | assumption) (first | (go_at_call 49; refine CA'.out.mono ?_; rintro e w5 ⟨rfl, f5, b5, s5⟩))
            clear s5
            go_wp2
            go_roundw
            case rel => exact ⟨k + 1, by omega, by go_num, Lib.hid f5, Lib.hid b5⟩
            case measure => simp [intOf]; omega
          · have CA' := Lib.hid (CA.out s (by simp only [tornS]; rw [if_neg]; omega))
            have hd := hdf h1
            clear CA h1 hdt hdf
            go_wp2_with fail
            go_region_held3 (fun W' : World => W'.cell? ⟨b, 0, none⟩ = some (.slice (some ⟨gs, 0, none⟩) D.dur.length cs) ∧ W'.cell? ⟨gv, k * 2, none⟩ = some (.int .i64 o)) (first | exact ⟨d0, q1⟩ | assumption) (first | (go_at_call 49; refine CA'.out.mono ?_; rintro e w5 ⟨rfl, f5, b5, s5⟩))
            clear s5
            go_wp2
            go_roundw
            case rel => exact ⟨k + 1, by omega, by go_num, Lib.hid f5, Lib.hid b5⟩
            case measure => simp [intOf]; omega
        · obtain rfl : k = L.length := by omega
          have d1 : wr.cell? ⟨b, 1, none⟩ = some (.slice pa D.pend.length pc) := cell_of_blk KB.out 1
          have d2 : wr.cell? ⟨b, 2, none⟩ = some (.bool D.off) := cell_of_blk KB.out 2
          have d3 : wr.cell? ⟨b, 3, none⟩ = some (.int .i64 D.left) := cell_of_blk KB.out 3
          have z1 := free_of_blk KB.out 1
          have z2 := free_of_blk KB.out 2
          have z3 := free_of_blk KB.out 3
          go_wp2
          go_end0
          have hs := heap_setCell_same (i := 3) (.int .i64 0) (heap_setCell_same (i := 2) (.bool false) (heap_setCell_same (i := 1) (.slice none 0 0) KB.out))
          have f2 : Fr [b] wr (((wr.setCell ⟨b, 1, none⟩ (.slice none 0 0)).setCell ⟨b, 2, none⟩ (.bool false)).setCell ⟨b, 3, none⟩ (.int .i64 0)) := ((Fr.setCell _ _ (by simp)).trans (Fr.setCell _ _ (by simp))).trans (Fr.setCell _ _ (by simp))
          have hl := hlen.out L.length (Nat.le_refl _)
          have hin : RfIn (((wr.setCell ⟨b, 1, none⟩ (.slice none 0 0)).setCell ⟨b, 2, none⟩ (.bool false)).setCell ⟨b, 3, none⟩ (.int .i64 0)) b (.slice (some ⟨gs, 0, none⟩) D.dur.length cs) (.slice none 0 0) ⟨false, 0, ct L.length, ct L.length, []⟩ := by
            refine ⟨⟨rfl, by simp only [hl]; exact H.out.ok.pos, by simp only [hl]; exact hm, by simp, by simp⟩, rfl, hs, ?_, ⟨by simp [pendC], .inl ⟨rfl, rfl⟩⟩, fun k hk => by simp [Value.ownBlock] at hk; omega, fun k hk => by cases hk⟩
            simp only [hl]
            exact ownsRow_keep HB.out fun k hk => f2.block k (ownsRow_lt HB.out hk) (by simp [Value.ownBlock] at hk; simp; omega)
          exact rfStep_in rfl hin (((F1.out.mono (by simp)).trans (HF.out.mono (by simp))).trans (f2.mono (by simp)) : Fr [b, gs] w _) (by simp [Value.ownBlock]) (by simp) (fun k hk => .inl (by simp [hk])) (fun k hk => by cases hk)

end Go.Proofs.YtbogljpafpkikaaGreatDoor
