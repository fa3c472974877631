/-
  The reference's attestations: in, a dial, are the keys as they should be.
-/
import Derived.Test.YtahfpadaoobkfaaGreatDoorQS20
import Derived.Test.YtahfpadaoobkfaaGreatDoorQS11
import Derived.Test.YtahfpadaoobkfaaGreatDoorShelf
import Derived.Test.YtahfpadaoobkfaaGreatDoorQS08
import Derived.Shelf.Strings.Builder1
import Derived.Test.YtahfpadaoobkfaaGreatDoorQS03
import Derived.Test.YtahfpadaoobkfaaGreatDoorQS04
namespace Go.Proofs.YtahfpadaoobkfaaGreatDoor
open Go.RowKit Go.Lib

theorem in25_c (n lo hi : Int) (w : World) : Calls Tryz.prog 104 #[.int .i64 n, .int .i64 lo, .int .i64 hi] w fun e w' => e = .returned (.bool (isInB n lo hi)) ∧ w = w' := by
  unfold isInB
  by_cases h : lo ≤ n
  · go_enter Tryz.func104, Tryz.ntmps104
    go_wp2
    go_ret
    exact ⟨by simp [h], rfl⟩
  · go_enter Tryz.func104, Tryz.ntmps104
    go_wp2
    go_ret
    exact ⟨by have h2 : ¬ lo ≤ n := by omega
              simp [h2], rfl⟩

/-- A dial that integers determine. -/
def dialM (a b c d : Int) : Dl := ⟨pickI a 100, pickI b 100, pickI c 1000, pickI d 100⟩
theorem dialM_b (a b c d : Int) : dlB (dialM a b c d) = true := by
  have b1 := pickI_bound a 100 (by omega)
  have b2 := pickI_bound b 100 (by omega)
  have b3 := pickI_bound c 1000 (by omega)
  have b4 := pickI_bound d 100 (by omega)
  simp only [dialM, dlB, isInB, Bool.and_eq_true]
  refine ⟨⟨⟨⟨?_, ?_⟩, ?_, ?_⟩, ?_, ?_⟩, ?_, ?_⟩ <;> (apply decide_eq_true; omega)

set_option maxRecDepth 100000 in
set_option maxHeartbeats 20000000 in
theorem dial25_c (a b c d : Int) (w : World) (ha : I64 a) (hb : I64 b) (hc : I64 c) (hd : I64 d) : Calls Tryz.prog 32 #[.agg #[.int .i64 a, .int .i64 b, .int .i64 c, .int .i64 d]] w fun r w' => r = .returned (dlV (dialM a b c d)) ∧ Fr [] w w' := by
  have c1 := Lib.hid fun w => pick25_c a 100 w ha (by omega) (by omega)
  have c2 := Lib.hid fun w => pick25_c b 100 w hb (by omega) (by omega)
  have c3 := Lib.hid fun w => pick25_c c 1000 w hc (by omega) (by omega)
  have c4 := Lib.hid fun w => pick25_c d 100 w hd (by omega) (by omega)
  unfold dialM
  generalize pickI a 100 = pa at *
  generalize pickI b 100 = pb at *
  generalize pickI c 1000 = pc at *
  generalize pickI d 100 = pd at *
  go_enter Tryz.func32, Tryz.ntmps32
  go_wp2_with fail
  have A2 := alloc2' w (.cells #[.int .i64 a, .int .i64 b, .int .i64 c, .int .i64 d] 22) (.cells #[.int .i64 0, .int .i64 0, .int .i64 0, .int .i64 0] 41)
  refine reg_fin (fun W => W.cell? ⟨w.heap.size, 0, none⟩ = some (.int .i64 a) ∧ W.cell? ⟨w.heap.size, 1, none⟩ = some (.int .i64 b) ∧ W.cell? ⟨w.heap.size, 2, none⟩ = some (.int .i64 c) ∧ W.cell? ⟨w.heap.size, 3, none⟩ = some (.int .i64 d)) 13 [0, 1, 3, 4, 6, 7, 9, 10, 2, 5, 8, 11, 12, 13] (by kernel_rfl) (by kernel_rfl) (by kernel_rfl) rfl ?_
  have S0 := (⟨cell_of_blk A2.1 0, cell_of_blk A2.1 1, cell_of_blk A2.1 2, cell_of_blk A2.1 3⟩ : _ ∧ _ ∧ _ ∧ _)
  refine fin_take (v := ?_) rfl rfl rfl rfl S0 (fun w hS => ?_) ?_
  rotate_left
  (focus (obtain ⟨s0, s1, s2, s3⟩ := hS; go_simp; rfl))
  simp only [List.setIfInBounds_toArray, List.set_cons_succ, List.set_cons_zero]
  refine fin_take (v := ?_) rfl rfl rfl rfl S0 (fun w hS => ?_) ?_
  rotate_left
  (focus (obtain ⟨s0, s1, s2, s3⟩ := hS; go_simp; rfl))
  simp only [List.setIfInBounds_toArray, List.set_cons_succ, List.set_cons_zero]
  refine fin_take (v := ?_) rfl rfl rfl rfl S0 (fun w hS => ?_) ?_
  rotate_left
  (focus (obtain ⟨s0, s1, s2, s3⟩ := hS; go_simp; rfl))
  simp only [List.setIfInBounds_toArray, List.set_cons_succ, List.set_cons_zero]
  refine fin_take (v := ?_) rfl rfl rfl rfl S0 (fun w hS => ?_) ?_
  rotate_left
  (focus (obtain ⟨s0, s1, s2, s3⟩ := hS; go_simp; rfl))
  simp only [List.setIfInBounds_toArray, List.set_cons_succ, List.set_cons_zero]
  refine fin_take (v := ?_) rfl rfl rfl rfl S0 (fun w hS => ?_) ?_
  rotate_left
  (focus (obtain ⟨s0, s1, s2, s3⟩ := hS; go_simp; rfl))
  simp only [List.setIfInBounds_toArray, List.set_cons_succ, List.set_cons_zero]
  refine fin_take (v := ?_) rfl rfl rfl rfl S0 (fun w hS => ?_) ?_
  rotate_left
  (focus (obtain ⟨s0, s1, s2, s3⟩ := hS; go_simp; rfl))
  simp only [List.setIfInBounds_toArray, List.set_cons_succ, List.set_cons_zero]
  refine fin_take (v := ?_) rfl rfl rfl rfl S0 (fun w hS => ?_) ?_
  rotate_left
  (focus (obtain ⟨s0, s1, s2, s3⟩ := hS; go_simp; rfl))
  simp only [List.setIfInBounds_toArray, List.set_cons_succ, List.set_cons_zero]
  refine fin_take (v := ?_) rfl rfl rfl rfl S0 (fun w hS => ?_) ?_
  rotate_left
  (focus (obtain ⟨s0, s1, s2, s3⟩ := hS; go_simp; rfl))
  simp only [List.setIfInBounds_toArray, List.set_cons_succ, List.set_cons_zero]
  refine fin_do rfl rfl rfl (fun K hK => ?_)
  go_simp
  refine (c1.out _).mono ?_
  rintro r w1 ⟨rfl, rfl⟩
  refine hK _ _ S0 ?_
  clear hK K
  try simp only [Act.put, List.setIfInBounds_toArray, List.set_cons_succ, List.set_cons_zero]
  refine fin_do rfl rfl rfl (fun K hK => ?_)
  go_simp
  refine (c2.out _).mono ?_
  rintro r w1 ⟨rfl, rfl⟩
  refine hK _ _ S0 ?_
  clear hK K
  try simp only [Act.put, List.setIfInBounds_toArray, List.set_cons_succ, List.set_cons_zero]
  refine fin_do rfl rfl rfl (fun K hK => ?_)
  go_simp
  refine (c3.out _).mono ?_
  rintro r w1 ⟨rfl, rfl⟩
  refine hK _ _ S0 ?_
  clear hK K
  try simp only [Act.put, List.setIfInBounds_toArray, List.set_cons_succ, List.set_cons_zero]
  refine fin_do rfl rfl rfl (fun K hK => ?_)
  go_simp
  refine (c4.out _).mono ?_
  rintro r w1 ⟨rfl, rfl⟩
  refine hK _ _ S0 ?_
  clear hK K
  try simp only [Act.put, List.setIfInBounds_toArray, List.set_cons_succ, List.set_cons_zero]
  refine fin_take (v := ?_) rfl rfl rfl rfl S0 (fun w hS => ?_) ?_
  rotate_left
  (focus (obtain ⟨s0, s1, s2, s3⟩ := hS; go_simp; rfl))
  simp only [List.setIfInBounds_toArray, List.set_cons_succ, List.set_cons_zero]
  have t0 := cell_of_blk A2.2 0
  have t1 := cell_of_blk A2.2 1
  have t2 := cell_of_blk A2.2 2
  have t3 := cell_of_blk A2.2 3
  refine fin_last rfl rfl rfl (fun K hK => ?_)
  go_simp
  refine hK _ _ ?_
  clear hK K
  clear t0 t1 t2 t3
  go_wp2_with fail
  go_returns
  exact ⟨rfl, ((Fr.alloc _ _ _).trans (Fr.alloc _ _ _)).trans (Fr.drew _ _)⟩

/-- Is a key's size as it should be? -/
def keyOkB (all : Bool) (k : ByteArray) : Bool := decide (k.size = 32) || !all && decide (k.size = 0)
def keysOkB (all : Bool) (keys : List ByteArray) : Bool := keys.all (keyOkB all) && decide (keys.length = 8)

theorem toList_some25 {s : ByteArray} (h : s ≠ ByteArray.empty) : s.toList.isEmpty = false := by
  rw [ByteArray.toList_eq]
  cases hl : s.data.toList with
  | nil => exact absurd (ByteArray.ext (Array.ext' hl)) h
  | cons x l => rfl
set_option maxRecDepth 100000 in
set_option maxHeartbeats 2000000 in
theorem keys25_c (v : Value) (keys : List ByteArray) (all : Bool) (w : World) (hs : Sl w v keys.length (keys.map Value.string)) (hk : keys.length ≤ 60) (hz : ∀ k, k ∈ keys → k.size ≤ 1000000) : Calls Tryz.prog 72 #[v, .bool all] w fun e w' => e = .returned (.bool (keysOkB all keys)) ∧ Fr [] w w' := by
  obtain ⟨ka, kc, rfl⟩ := hs.val
  have HS := Lib.hid hs
  have HZ := Lib.hid hz
  clear hs hz
  go_enter Tryz.func72, Tryz.ntmps72
  go_wp2_with fail
  go_loopw [5] (fun iv wr => ∃ (k : Nat), iv = .int .i64 k ∧ k ≤ keys.length ∧ Hid ((keys.take k).all (keyOkB all) = true) ∧ Hid (Fr [] w wr)) (fun iv _ => keys.length - (RowKit.intOf iv).toNat)
  case atStart => exact ⟨0, rfl, Nat.zero_le _, Lib.hid (by simp), Lib.hid (Fr.refl _ _)⟩
  case round =>
    obtain ⟨k, rfl, hk1, H, HF⟩ := hrel
    by_cases hlt : k < keys.length
    · obtain ⟨kb, ko, rfl, hc⟩ := (HS.out.same HF.out).at_ (by omega)
      have ck : wr.cell? ⟨kb, ko + k, none⟩ = some (.string keys[k]) := hc k _ (by simp [hlt])
      have hky := HZ.out keys[k] (List.getElem_mem hlt)
      have HE : Hid (∀ b, keyOkB all keys[k] = b → (keys.take (k + 1)).all (keyOkB all) = b) := Lib.hid fun b hb => by
        rw [List.take_succ_eq_append_getElem hlt, List.all_append, H.out]; simp [hb]
      have HN : Hid (keyOkB all keys[k] = false → keysOkB all keys = false) := Lib.hid fun hb => by
        have : keys.all (keyOkB all) = false := by
          rw [List.all_eq_false]
          exact ⟨_, List.getElem_mem hlt, by simp [hb]⟩
        simp [keysOkB, this]
      generalize keys[k] = ky at *
      clear hc
      by_cases h32 : ky.size = 32
      · have HE2 := Lib.hid (HE.out true (by simp [keyOkB, h32]))
        go_wp2_with fail
        go_roundw
        case rel => exact ⟨k + 1, by go_num, hlt, HE2, HF⟩
        case measure => simp [RowKit.intOf]; omega
      · cases all with
        | true =>
          have HN2 := Lib.hid (HN.out (by simp [keyOkB, h32]))
          go_wp2_with fail
          go_ret
          exact ⟨by rw [HN2.out]; rfl, HF.out⟩
        | false =>
          by_cases h0 : ky = ByteArray.empty
          · have HE2 := Lib.hid (HE.out true (by rw [h0]; rfl))
            have hq : ky.toList.isEmpty = true := by rw [h0, ByteArray.toList_eq]; rfl
            clear h0
            go_wp2_with fail
            go_roundw
            case rel => exact ⟨k + 1, by go_num, hlt, HE2, HF⟩
            case measure => simp [RowKit.intOf]; omega
          · have hq : ky.toList.isEmpty = false := toList_some25 h0
            have hz : ¬ ky.size = 0 := fun e => h0 (ByteArray.ext (Array.eq_empty_of_size_eq_zero e))
            have HN2 := Lib.hid (HN.out (by simp [keyOkB, h32, hz]))
            clear h0 hz
            go_wp2_with fail
            go_ret
            exact ⟨by rw [HN2.out]; rfl, HF.out⟩
    · obtain rfl : k = keys.length := by omega
      have HQ : Hid (((keys.length : Int) == 8) = keysOkB all keys) := Lib.hid (by
        have h := H.out
        rw [List.take_length] at h
        rw [keysOkB, h, Bool.true_and]
        by_cases h8 : keys.length = 8
        · rw [h8]; rfl
        · rw [decide_eq_false h8]
          exact beq_eq_false_iff_ne.2 (by omega))
      go_wp2_with fail
      go_ret
      exact ⟨by rw [HQ.out]; rfl, HF.out⟩

end Go.Proofs.YtahfpadaoobkfaaGreatDoor

/-
  The reference's attestations: the content of a hand.
-/
namespace Go.Proofs.YtahfpadaoobkfaaGreatDoor
open Go.RowKit Go.Lib

theorem cat_str25 (a b : List UInt8) : str a ++ str b = str (a ++ b) := by
  apply ByteArray.ext; simp [str]
theorem flat_putN : ∀ l : List Int, (∀ n, n ∈ l → 0 ≤ n ∧ n ≤ 99999999) → (l.flatMap putN).length ≤ 9 * l.length
  | [], _ => Nat.le_refl _
  | n :: l, h => by
    have h1 := flat_putN l (fun m hm => h m (List.mem_cons_of_mem _ hm))
    have h2 := h n List.mem_cons_self
    have h3 : (putN n).length ≤ 9 := encZ_len9 (by omega)
    rw [List.flatMap_cons, List.length_append, List.length_cons]
    omega
set_option maxRecDepth 100000 in
set_option maxHeartbeats 4000000 in
theorem content25_c (d : Dl) (v : Value) (l : List Hd) (i : Nat) (w : World) (hs : HdsAt w v l) (hi : i < l.length) (hl : l.length ≤ 100) (bf : ByteArray) (hbf : bf = if i = 0 then ByteArray.empty else (l.getD (i - 1) default).sig) (hd : dlB d = true) (h1 : 0 ≤ l[i].car ∧ l[i].car ≤ 7) (h2 : 0 ≤ l[i].lev ∧ l[i].lev ≤ 3) (hz : bf.size ≤ 1000) :
    Calls Tryz.prog 35 #[atV d v, .int .i64 i] w fun e w' => e = .returned (.string (str (cntM d i l[i] bf))) ∧ Fr [] w w' := by
  obtain ⟨a, cap, rfl⟩ := hs.val
  obtain ⟨b, off, cp, hv, hc⟩ := hdRow_cells hs i hi
  injection hv with hv _ hv2
  subst hv hv2
  have k0 : w.cell? ⟨b, off + i * 3, none⟩ = some (.int .i64 l[i].car) := hc 0 _ rfl
  have k1 : w.cell? ⟨b, off + i * 3 + 1, none⟩ = some (.int .i64 l[i].lev) := hc 1 _ rfl
  have hlen := hs.len
  have HS := Lib.hid hs
  have HB := Lib.hid hbf
  obtain ⟨d0, d1, d2, d3⟩ := d
  clear hs hbf hc
  generalize l[i] = h at *
  obtain ⟨xc, xv, xs⟩ := h
  obtain ⟨ns, hns⟩ : ∃ ns : List Int, ns = [7, d0, d1, d2, d3, (i : Int), xc, xv] := ⟨_, rfl⟩
  have hnl : ns.length = 8 := by rw [hns]; rfl
  have HM : Hid (cntM ⟨d0, d1, d2, d3⟩ i ⟨xc, xv, xs⟩ bf = ns.flatMap putN ++ bts bf) := Lib.hid (by
    subst hns
    simp [cntM, List.flatMap_cons, List.append_assoc, show putN 7 = encZ 14 from rfl])
  generalize cntM ⟨d0, d1, d2, d3⟩ i ⟨xc, xv, xs⟩ bf = CM at *
  have HNS := Lib.hid hns
  clear hns
  go_enter Tryz.func35, Tryz.ntmps35
  go_wp2_with fail
  have A1 := heap_alloc_new w (.cells #[.int .i64 d0, .int .i64 d1, .int .i64 d2, .int .i64 d3, .slice (some ⟨b, off, none⟩) l.length cap] 44)
  have F1 := Fr.alloc [] w (.cells #[.int .i64 d0, .int .i64 d1, .int .i64 d2, .int .i64 d3, .slice (some ⟨b, off, none⟩) l.length cap] 44)
  have c0 := cell_of_blk A1 0; have c1 := cell_of_blk A1 1; have c2 := cell_of_blk A1 2; have c3 := cell_of_blk A1 3; have c4 := cell_of_blk A1 4
  have c5 := F1.cel k0 (by simp); have c6 := F1.cel k1 (by simp)
  have HS1 := Lib.hid (HS.out.same F1)
  generalize hg : w.heap.size = g at *
  generalize w.alloc _ = W0 at *
  refine reg_mix (Fr [] W0) [0, 1, 2, 3, 4, 5, 6, 7, 8, 9, 10, 11, 12, 13, 14, 15, 16, 17, 18, 19, 20, 21, 22, 23, 24, 25, 26] (by kernel_rfl) (by kernel_rfl) (by kernel_rfl) rfl (Fr.drew _ _) ?_
  have FC : Fr [] W0 W0.drew := Fr.drew _ _
  generalize W0.drew = WC at FC ⊢
  iterate 25 (refine mix_take1 (v := ?_) rfl rfl rfl rfl (fun w hS => ?_) ?_; rotate_left; (focus (have e0 := hS.cel c0 (by simp); have e1 := hS.cel c1 (by simp); have e2 := hS.cel c2 (by simp); have e3 := hS.cel c3 (by simp); have e4 := hS.cel c4 (by simp); have e5 := hS.cel c5 (by simp); have e6 := hS.cel c6 (by simp); clear hS; go_simp; rfl)); simp only [List.setIfInBounds_toArray, List.set_cons_succ, List.set_cons_zero])
  refine mix_do (o := ⟨some 35, _, _, _, _, _⟩) rfl rfl rfl (fun K hK => ?_)
  go_simp
  have FA := Fr.alloc [] WC (.cells #[.int .i64 7, .int .i64 d0, .int .i64 d1, .int .i64 d2, .int .i64 d3, .int .i64 i, .int .i64 xc, .int .i64 xv] 3)
  refine hK _ _ (FC.trans FA) ?_
  clear hK K
  try simp only [Act.put, List.setIfInBounds_toArray, List.set_cons_succ, List.set_cons_zero]
  (refine mix_take1 (v := ?_) rfl rfl rfl rfl (fun w hS => ?_) ?_; rotate_left; (focus (have e0 := hS.cel c0 (by simp); have e1 := hS.cel c1 (by simp); have e2 := hS.cel c2 (by simp); have e3 := hS.cel c3 (by simp); have e4 := hS.cel c4 (by simp); have e5 := hS.cel c5 (by simp); have e6 := hS.cel c6 (by simp); clear hS; go_simp; rfl)); simp only [List.setIfInBounds_toArray, List.set_cons_succ, List.set_cons_zero])
  refine mix_end ?_
  have BN := heap_alloc_new WC (.cells #[.int .i64 7, .int .i64 d0, .int .i64 d1, .int .i64 d2, .int .i64 d3, .int .i64 i, .int .i64 xc, .int .i64 xv] 3)
  have hns := HNS.out
  have HC : Hid (∀ k, (hk : k < ns.length) → (WC.alloc (.cells #[.int .i64 7, .int .i64 d0, .int .i64 d1, .int .i64 d2, .int .i64 d3, .int .i64 i, .int .i64 xc, .int .i64 xv] 3)).cell? ⟨WC.heap.size, k, none⟩ = some (.int .i64 ns[k])) := Lib.hid fun k hk => by
    rw [cell_of_blk BN]
    subst hns
    have : k = 0 ∨ k = 1 ∨ k = 2 ∨ k = 3 ∨ k = 4 ∨ k = 5 ∨ k = 6 ∨ k = 7 := by simp at hk; omega
    rcases this with rfl | rfl | rfl | rfl | rfl | rfl | rfl | rfl <;> rfl
  have HR : Hid (∀ n, n ∈ ns → 0 ≤ n ∧ n ≤ 99999999) := Lib.hid (by
    subst hns
    simp only [dlB, isInB, Bool.and_eq_true, decide_eq_true_eq] at hd
    intro n hn
    simp only [List.mem_cons, List.not_mem_nil, or_false] at hn
    omega)
  have FW := Lib.hid (FC.trans FA)
  have HF1 := Lib.hid F1
  clear FA FC BN hns hd h1 h2 c0 c1 c2 c3 c5 c6 k0 k1 HS F1
  generalize WC.heap.size = gn at *
  generalize WC.alloc _ = W2 at *
  go_wp2_with fail
  go_loopw [6, 7] (fun sv iv wr => ∃ (k : Nat), iv = .int .i64 k ∧ k ≤ 8 ∧ sv = .string (str ((ns.take k).flatMap putN)) ∧ Hid (Fr [] W2 wr)) (fun _ iv _ => 8 - (RowKit.intOf iv).toNat)
  case atStart => exact ⟨0, rfl, Nat.zero_le _, rfl, Lib.hid (Fr.refl _ _)⟩
  case round =>
    obtain ⟨k, rfl, hk, rfl, HF⟩ := hrel
    by_cases hlt : k < 8
    · have hlt2 : k < ns.length := by omega
      have ck := HF.out.cel (HC.out k hlt2) (by simp)
      have hr := HR.out ns[k] (List.getElem_mem hlt2)
      have CP := Lib.hid fun W => putIntZ_c ns[k] (2 * ns[k].toNat) (by omega) (by rw [unz_two]; omega) (by omega) W
      have HE : Shut (str ((ns.take k).flatMap putN) ++ str (encZ (2 * ns[k].toNat)) = str ((ns.take (k + 1)).flatMap putN)) := ⟨by
        rw [List.take_succ_eq_append_getElem hlt2, List.flatMap_append, cat_str25]; simp [putN]⟩
      have hs1 : (str ((ns.take k).flatMap putN)).size ≤ 72 := by
        rw [str_size]
        have h := flat_putN (ns.take k) (fun n hn => HR.out n (List.mem_of_mem_take hn))
        have h2 : (ns.take k).length ≤ 8 := by simp; omega
        omega
      have hs2 : (str (encZ (2 * ns[k].toNat))).size ≤ 9 := by rw [str_size]; exact encZ_len9 (by omega)
      generalize ns[k] = z at *
      generalize str (encZ (2 * z.toNat)) = pz at *
      generalize str ((ns.take k).flatMap putN) = S at *
      generalize hS2 : str ((ns.take (k + 1)).flatMap putN) = S2 at *
      clear hr
      go_wp2_with fail
      refine (CP.out _).mono ?_
      rintro e w1 ⟨rfl, f1⟩
      have HF2 := Lib.hid (HF.out.trans f1)
      clear f1 ck
      go_wp2_with fail
      go_roundw
      case rel => exact ⟨k + 1, by go_num, by omega, by rw [hS2, ← HE.out], HF2⟩
      case measure => simp [RowKit.intOf]; omega
    · obtain rfl : k = 8 := by omega
      have HT : Hid (str ((ns.take 8).flatMap putN) = str (ns.flatMap putN)) := Lib.hid (by rw [List.take_of_length_le (by omega)])
      have hs1 : (str (ns.flatMap putN)).size ≤ 72 := by
        rw [str_size]
        have h := flat_putN ns HR.out
        omega
      rw [HT.out]
      have HFa := Lib.hid (FW.out.trans HF.out)
      have e4 := HFa.out.cel c4 (by simp)
      by_cases h0 : i = 0
      · subst h0
        have HE : Shut (str (ns.flatMap putN) = str CM) := ⟨by rw [HM.out, HB.out, if_pos rfl, show bts ByteArray.empty = [] from rfl, List.append_nil]⟩
        generalize str (ns.flatMap putN) = S at *
        go_wp2_with fail
        go_ret
        exact ⟨by rw [← HE.out]; rfl, HF1.out.trans HFa.out⟩
      · have hi1 : i - 1 < l.length := by omega
        obtain ⟨b', off', cp', hv', hc'⟩ := hdRow_cells (HS1.out.same HFa.out) (i - 1) hi1
        injection hv' with hv' _ _
        injection hv' with hv'
        injection hv' with hv1 hv2
        subst hv1 hv2
        have hij : ((i : Int) - 1) = ((i - 1 : Nat) : Int) := by omega
        have kq : wr.cell? ⟨b, off + (i - 1) * 3 + 2, none⟩ = some (.string bf) := by
          rw [HB.out, if_neg h0, List.getD_eq_getElem?_getD, List.getElem?_eq_getElem hi1]
          exact hc' 2 _ rfl
        have HE : Shut (str (ns.flatMap putN) ++ bf = str CM) := ⟨by rw [HM.out, ← cat_str25, str_bts]⟩
        clear hc'
        generalize str (ns.flatMap putN) = S at *
        go_wp2_with fail
        go_ret
        exact ⟨by rw [← HE.out]; rfl, HF1.out.trans HFa.out⟩

end Go.Proofs.YtahfpadaoobkfaaGreatDoor

/-
  strings.Builder's WriteString at this program (the shelf's contract), and the frames of the shelf's contracts.
-/
namespace Go.Proofs.YtahfpadaoobkfaaGreatDoor
open Go.RowKit Go.Lib

theorem lays166 : Go.Proofs.Lays.n166 Tryz.prog Tryz.lays156_ren := {
  mixed := Tryz.lays156.mixed
  f166 := Tryz.lays156.f166
  f240 := Tryz.lays156.f240
  f276 := Tryz.lays156.f276
  t0 := Tryz.lays156.t0
  a0 := Tryz.lays156.a0
  z0 := Tryz.lays156.z0
  v0 := Tryz.lays156.v0
  t3 := Tryz.lays156.t3
  a3 := Tryz.lays156.a3
  z3 := Tryz.lays156.z3
  v3 := Tryz.lays156.v3
  t4 := Tryz.lays156.t4
  a4 := Tryz.lays156.a4
  z4 := Tryz.lays156.z4
  v4 := Tryz.lays156.v4
  t9 := Tryz.lays156.t9
  a9 := Tryz.lays156.a9
  z9 := Tryz.lays156.z9
  v9 := Tryz.lays156.v9
  t20 := Tryz.lays156.t20
  a20 := Tryz.lays156.a20
  z20 := Tryz.lays156.z20
  v20 := Tryz.lays156.v20
  t37 := Tryz.lays156.t37
  a37 := Tryz.lays156.a37
  z37 := Tryz.lays156.z37
  v37 := Tryz.lays156.v37
  t70 := Tryz.lays156.t70
  a70 := Tryz.lays156.a70
  z70 := Tryz.lays156.z70
  v70 := Tryz.lays156.v70
  t72 := Tryz.lays156.t72
  a72 := Tryz.lays156.a72
  z72 := Tryz.lays156.z72
  v72 := Tryz.lays156.v72
  t75 := Tryz.lays156.t75
  a75 := Tryz.lays156.a75
  z75 := Tryz.lays156.z75
  v75 := Tryz.lays156.v75
  t164 := Tryz.lays156.t164
  a164 := Tryz.lays156.a164
  z164 := Tryz.lays156.z164
  v164 := Tryz.lays156.v164 }
end Go.Proofs.YtahfpadaoobkfaaGreatDoor

/-
  strings.Builder inside another struct: WriteString, String, with narrow frames (for any type of block).
-/
namespace Go.Proofs.YtahfpadaoobkfaaGreatDoor
open Go.RowKit Go.Lib

structure BldT (w : World) (b : Nat) (p v : Value) (l : List UInt8) : Prop where
  blk : w.heap[b]? = some (.cells #[p, v] 172 (0, 0))
  row : w.ownsRow 0 5 1 v l.length (byteCells l)
  ne : v.ownBlock ≠ some b
def bldTB (b : Nat) (v : Value) : List Nat := b :: v.ownBlock.toList
theorem appendT_str (v : Value) (l : List UInt8) (s : ByteArray) (ty : TypeId) (w : World) (hown : w.ownsRow 0 5 1 v l.length (byteCells l)) (h : l.length + s.size ≤ 140737488355328) :
    ∃ ga cap w', (Builtin.append_ #[160, 9] ty #[v, .string s]).run Tryz.prog w = .ok (.slice ga (l.length + s.size) cap) w' ∧ w'.ownsRow 0 5 1 (.slice ga (l.length + s.size) cap) (l ++ bts s).length (byteCells (l ++ bts s)) ∧ Fr v.ownBlock.toList w w' ∧
      ((Value.slice ga (l.length + s.size) cap).ownBlock = v.ownBlock ∨ (Value.slice ga (l.length + s.size) cap).ownBlock = some w.heap.size) := by
  obtain ⟨i, hi, hz, hsize, hby⟩ := info_parts infoBy
  have ht := Tryz.underlying160
  have hu := Tryz.underlying9
  have e1 : (l ++ bts s).length = l.length + s.size := by simp [bts_len]
  have e2 : byteCells (l ++ bts s) = byteCells l ++ strCells s := by simp [byteCells, strCells, bts]
  rw [e1, e2]
  have hsmall : l.length + s.size ≤ maxLen := by simp only [maxLen]; omega
  have hxl : (byteCells l).length = l.length := by simp [byteCells]
  have grown : ∀ old, old < l.length + s.size → ∀ (row : List Nat),
      (w.drew.alloc (.cells ((byteCells l).toArray ++ (strCells s).toArray ++ Builtin.zeroCells (Value.int .u8 0).cells (grownCap w (l.length + s.size) old 5 - (l.length + s.size))) 5)).ownsRow 0 5 1
        (.slice (some ⟨w.heap.size, 0, none⟩) (l.length + s.size) (grownCap w (l.length + s.size) old 5)) (l.length + s.size) (byteCells l ++ strCells s) ∧
      Fr row w (w.drew.alloc (.cells ((byteCells l).toArray ++ (strCells s).toArray ++ Builtin.zeroCells (Value.int .u8 0).cells (grownCap w (l.length + s.size) old 5 - (l.length + s.size))) 5)) := by
    intro old ho row
    have hge := grownCap_ge w (l.length + s.size) old 5
    have hcm : grownCap w (l.length + s.size) old 5 ≤ maxLen := grownCap_le_maxLen w (l.length + s.size) old 5 hsmall
    refine ⟨⟨by rw [List.length_append, hxl, strCells_length, Nat.mul_one], .inr ⟨w.heap.size, _, _, rfl, Nat.zero_le _, heap_alloc_new w.drew _, hge, hcm, ?_, ?_⟩⟩, (Fr.drew _ _).trans (Fr.alloc _ _ _)⟩
    · have hz1 : (Value.int IntKind.u8 0).cells.size = 1 := rfl
      simp only [Array.size_append, List.size_toArray, size_zeroCells, hz1, hxl, strCells_length]
      omega
    · simp only [Array.toList_append, Nat.mul_one]
      exact List.take_left' (by rw [List.length_append, hxl, strCells_length])
  rcases hown.2 with ⟨rfl, h0⟩ | ⟨g, cap, cur, rfl, hbg, hg, hnc, hcm, hcs, htake⟩
  · obtain rfl : l = [] := List.eq_nil_of_length_eq_zero h0
    by_cases hm : s.size = 0
    · have hn : strCells s = [] := List.eq_nil_of_length_eq_zero (by rw [strCells_length]; exact hm)
      refine ⟨none, 0, w, ?_, by rw [hm, hn]; exact World.ownsRow_nil w 0 5 1, Fr.refl _ _, .inl rfl⟩
      have hf := run_firstCells_string (P := Tryz.prog) w 1 s
      rw [hm] at hf
      simp [Builtin.append_, run_underlying ht, run_underlying hu, sizeOf, typeInfo, hi, hsize, Builtin.lenOf, hm, hf]
    · have hr := run_append_nil_string (P := Tryz.prog) w 160 9 ty 5 i (.int .u8 0) ht hu hi hz s (by omega) (by simp at h; omega) (by rw [hby]; simp at h; omega)
      have hgr := grown 0 (by simp; omega) (Value.ownBlock (.slice none 0 0)).toList
      have e3 : (s.data.map fun b => Value.int .u8 b.toNat) = (strCells s).toArray := by
        apply Array.ext'
        simp [strCells]
      rw [e3] at hr
      simp only [List.length_nil, Nat.zero_add, byteCells, List.map_nil, List.nil_append, Array.empty_append] at hgr ⊢
      exact ⟨_, _, _, hr, hgr.1, hgr.2, .inr rfl⟩
  · by_cases hroom : l.length + s.size ≤ cap
    · have hcs' : cur.size = cap := by simpa using hcs
      have hr := run_append_room_string (P := Tryz.prog) w 160 9 ty 5 i ht hu hi hsize g l.length cap cur hg s hroom (by omega)
      refine ⟨_, _, _, hr, ⟨by rw [List.length_append, hxl, strCells_length, Nat.mul_one], .inr ⟨g, cap, _, rfl, hbg, setRow_heap w g cur _ 5 _ hg, hroom, hcm, ?_, ?_⟩⟩, Fr.setRow _ _ (by simp [Value.ownBlock]), .inl rfl⟩
      · simp only [List.size_toArray, List.length_append, List.length_take, List.length_drop, Array.length_toList, strCells_length]
        omega
      · have ht' : cur.toList.take l.length = byteCells l := by simpa using htake
        rw [ht', Nat.mul_one]
        exact List.take_left' (by rw [List.length_append, hxl, strCells_length])
    · have holds : ∀ j u, (byteCells l)[j]? = some u → w.cell? ((⟨g, 0, none⟩ : Addr).add j) = some u := hown.cells (g := g) rfl
      have hr := run_append_grow_string (P := Tryz.prog) w 160 9 ty 5 i (.int .u8 0) ht hu hi hz ⟨g, 0, none⟩ l.length cap (byteCells l) (by rw [hsize]; simp [byteCells]) holds s (by omega) (by omega) (by rw [hby]; exact growslice_fits (by omega) (by omega))
      have hgr := grown cap (by omega) (Value.ownBlock (.slice (some ⟨g, 0, none⟩) l.length cap)).toList
      exact ⟨_, _, _, hr, hgr.1, hgr.2, .inr rfl⟩

theorem wp_append_strT {o : Oper} {a : Act} {w : World} {K : Act → World → Prop} {Q : Exit → Act → World → Prop} (s x : Operand) (ho : o.op = .call { callee := .builtin .append, args := #[s, x], argTypes := #[160, 9] })
    (v : Value) (l : List UInt8) (sb : ByteArray) (hs : a.eval s = v) (hx : a.eval x = .string sb) (hown : w.ownsRow 0 5 1 v l.length (byteCells l)) (hlen : l.length + sb.size ≤ 140737488355328)
    (h : ∀ ga cap w', w'.ownsRow 0 5 1 (.slice ga (l.length + sb.size) cap) (l ++ bts sb).length (byteCells (l ++ bts sb)) → Fr v.ownBlock.toList w w' → ((Value.slice ga (l.length + sb.size) cap).ownBlock = v.ownBlock ∨ (Value.slice ga (l.length + sb.size) cap).ownBlock = some w.heap.size) → K (a.put o.dst (.slice ga (l.length + sb.size) cap)) w') : o.wp Tryz.prog a w K Q := by
  obtain ⟨ga, cap, w', hr, h2, h3, h4⟩ := appendT_str v l sb o.type w hown hlen
  unfold Oper.wp execOp
  simp only [ho, resolve, invoke, builtin, Sem.run_bind, Sem.run_pure, Result.andThen_ok, List.map_toArray, List.map_cons, List.map_nil, hs, hx, hr]
  exact h ga cap w' h2 h3 h4

theorem BldT.fr {w w' : World} {b : Nat} {p v : Value} {l : List UInt8} {S : List Nat} (h : BldT w b p v l) (hf : Fr S w w') (hS : ∀ k, k ∈ bldTB b v → k ∉ S) : BldT w' b p v l :=
  ⟨hf.keep h.blk (hS b (by simp [bldTB])), row_fr h.row hf (fun g hg => hS g (by simp [bldTB, hg])), h.ne⟩

section
open Go.Proofs Go.Shelf
variable {P : Program} {ρ : Ren}
set_option maxHeartbeats 1000000 in
set_option maxRecDepth 100000 in
/-- copyCheck at a fresh builder inside another struct. -/
theorem copyFresh_in (L : Lays.n240 P ρ) (X : Builder.X72 P ρ) (tw : TypeId) (b : Nat) (w : World) (h0 : w.cell? ⟨b, 0, none⟩ = some (.pointer none)) (hsh : w.shape? b = some (tw, 2)) (hlies : liesAt P P.depth tw (2 / P.cellsOf tw) 0 (ρ.t 72) 1 = true) (hfz : w.frozen? ⟨b, 0, none⟩ = false) :
    Calls P (ρ.f 240) #[.pointer (some ⟨b, 0, none⟩)] w fun e w' => e = .returned (.tuple #[]) ∧ w' = w.setCell ⟨b, 0, none⟩ (.pointer (some ⟨b, 0, none⟩)) := by
  obtain ⟨j, hj, hjs⟩ := Option.map_eq_some_iff.1 X.sizeBuilder
  have mixed := L.mixed
  have t72 := L.t72; have a72 := L.a72; have z72 := L.z72; have v72 := L.v72; have u72 := run_underlying L.t72
  have t70 := L.t70; have a70 := L.a70; have z70 := L.z70; have v70 := L.v70; have u70 := run_underlying L.t70
  have t9 := L.t9; have a9 := L.a9; have z9 := L.z9; have v9 := L.v9; have u9 := run_underlying L.t9
  have t4 := L.t4; have a4 := L.a4; have z4 := L.z4; have v4 := L.v4; have u4 := run_underlying L.t4
  have t164 := L.t164; have a164 := L.a164; have z164 := L.z164; have v164 := L.v164; have u164 := run_underlying L.t164
  go_enter L.f240, Body.n240_ntmps ρ
  go_wp2
  rw [Lib.run_to_unsafe w ⟨b, 0, none⟩ L.t70 L.t164 hj (by rw [hjs]; decide) hsh (Nat.zero_lt_succ 1)]
  simp only [Result.andThen]
  rw [Oper.upon_value]
  go_wp2
  rw [run_callFunc_extern L.f276 (by kernel_rfl) (by kernel_rfl) (by kernel_rfl) (e := Extern.AbiNoEscape.same) (by kernel_rfl)]
  rw [Lib.run_noEscape]
  simp only [Result.andThen]
  rw [Oper.upon_value]
  go_wp2
  rw [Lib.run_from_unsafe w ⟨b, 0, none⟩ L.t164 L.t70 hj hsh hlies]
  simp only [Result.andThen]
  rw [Oper.upon_value]
  go_wp2
  go_end0
  exact ⟨rfl, rfl⟩
end

set_option maxRecDepth 100000 in
theorem liesW : liesAt Tryz.prog Tryz.prog.depth 172 (2 / Tryz.prog.cellsOf 172) 0 170 1 = true := by kernel_rfl
theorem copyT_c (b : Nat) (p v : Value) (l : List UInt8) (w : World) (h : BldT w b p v l) (hp : p = .pointer none ∨ p = .pointer (some ⟨b, 0, none⟩)) :
    Calls Tryz.prog 109 #[.pointer (some ⟨b, 0, none⟩)] w fun e w' => e = .returned (.tuple #[]) ∧ BldT w' b (.pointer (some ⟨b, 0, none⟩)) v l ∧ Fr [b] w w' := by
  have c0 := cell_of_blk h.blk 0
  rcases hp with rfl | rfl
  · refine (copyFresh_in (ρ := Tryz.lays156_ren) { lays166 with } Tryz.Builder_Extra_156.toX72 172 b w c0 (by simp [World.shape?, h.blk]) liesW (free_of_blk h.blk 0)).mono ?_
    rintro e w' ⟨rfl, rfl⟩
    have f : Fr [b] w (w.setCell ⟨b, 0, none⟩ (.pointer (some ⟨b, 0, none⟩))) := Fr.setCell _ _ (by simp)
    refine ⟨rfl, ⟨?_, row_fr h.row f (fun g hg => by simp; rintro rfl; exact h.ne hg), h.ne⟩, f⟩
    have := heap_setCell_same (i := 0) (.pointer (some ⟨b, 0, none⟩)) h.blk
    simpa using this
  · refine (Go.Proofs.Any.Builder_copyCheck_used (ρ := Tryz.lays156_ren) { lays166 with } Tryz.Builder_Extra_156.toX72 b w c0).mono ?_
    rintro e w' ⟨rfl, rfl⟩
    exact ⟨rfl, h, Fr.refl _ _⟩

set_option maxRecDepth 100000 in
set_option maxHeartbeats 1000000 in
theorem bwriteT_c (b : Nat) (p v : Value) (l : List UInt8) (s : ByteArray) (w : World) (h : BldT w b p v l) (hp : p = .pointer none ∨ p = .pointer (some ⟨b, 0, none⟩)) (hlen : l.length + s.size ≤ 140737488355328) :
    Calls Tryz.prog 82 #[.pointer (some ⟨b, 0, none⟩), .string s] w fun e w' => e = .returned (.tuple #[.int .i64 s.size, .nilIface]) ∧ ∃ v', BldT w' b (.pointer (some ⟨b, 0, none⟩)) v' (l ++ bts s) ∧ Upd (bldTB b v) (bldTB b v') w w' := by
  have hbl := blk_lt h.blk
  have CC := Lib.hid (copyT_c b p v l w h hp)
  clear h hp
  go_enter Tryz.func82, Tryz.ntmps82
  go_wp2_with fail
  refine CC.out.mono ?_
  rintro e w1 ⟨rfl, h1, f1⟩
  have c1 := cell_of_blk h1.blk 1
  have HB := Lib.hid h1; have HF := Lib.hid f1
  clear h1 f1 CC
  obtain ⟨a0, n0, k0, rfl⟩ : ∃ a0 n0 k0, v = .slice a0 n0 k0 := by
    rcases HB.out.row.2 with ⟨rfl, _⟩ | ⟨g, cap, cur, rfl, _⟩
    · exact ⟨_, _, _, rfl⟩
    · exact ⟨_, _, _, rfl⟩
  go_wp2_with (first | ((with_reducible refine wpList_of_wp (o := ⟨some 14, _, _, _, _, _⟩) rfl (fun K hK => ?_)); apply stopD; case _other => exact trivial))
  (refine stopD ?_ ?_; rotate_left; exact trivial)
  refine wp_append_strT (.tmp 12) (.tmp 13) rfl (.slice a0 n0 k0) l s rfl rfl HB.out.row hlen ?_
  intro ga cap w2 r2 f2 o2
  refine hK _ _ ?_
  clear hK K
  have b2 := f2.keep HB.out.blk (fun hm => HB.out.ne (by simpa using hm))
  have y2 := free_of_blk b2 1
  have d2 := cell_of_blk b2 1
  have HB2 := Lib.hid b2; have HR2 := Lib.hid r2; have HF2 := Lib.hid f2; have HO := Lib.hid o2
  clear b2 r2 f2 o2 c1
  go_wp2_with fail
  go_ret2
  have F3 : Fr [b] w2 (w2.setCell ⟨b, 1, none⟩ (.slice ga (l.length + s.size) cap)) := Fr.setCell _ _ (by simp)
  have hne : (Value.slice ga (l.length + s.size) cap).ownBlock ≠ some b := fun e => by
    rcases HO.out with h | h
    · exact HB.out.ne (h ▸ e)
    · rw [e] at h
      have := HF.out.size
      simp at h
      omega
  refine ⟨rfl, .slice ga (l.length + s.size) cap, ⟨?_, row_fr HR2.out F3 (fun g hg => by simp; rintro rfl; exact hne hg), hne⟩, ?_, ?_⟩
  · have := heap_setCell_same (i := 1) (.slice ga (l.length + s.size) cap) HB2.out
    simpa using this
  · exact ((HF.out.mono (by simp [bldTB])).trans (HF2.out.mono (fun k hk => by simp [bldTB]; right; simpa using hk))).trans (F3.mono (by simp [bldTB]))
  · intro k hk
    simp only [bldTB, List.mem_cons, Option.mem_toList] at hk ⊢
    rcases hk with hk | hk
    · exact .inl (.inl hk)
    · rcases HO.out with h | h
      · exact .inl (.inr (h ▸ hk))
      · rw [h] at hk
        have := HF.out.size
        simp at hk
        right; omega

theorem Fr.freezeT {fp : List Nat} {w : World} {p : Addr} (h : p.block ∈ fp) (n : Nat) : Fr fp w (w.freeze p n) := by
  unfold World.freeze
  split
  · exact Fr.refl _ _
  · refine ⟨rfl, rfl, rfl, by simp, fun k hk hn => ?_⟩
    simp only [Array.getElem?_modify]
    rw [if_neg (by rintro rfl; exact hn h)]

set_option maxRecDepth 100000 in
set_option maxHeartbeats 2000000 in
theorem bstringT_c (b : Nat) (p v : Value) (l : List UInt8) (w : World) (h : BldT w b p v l) (h0 : l ≠ []) : Calls Tryz.prog 83 #[.pointer (some ⟨b, 0, none⟩)] w fun e w' => e = .returned (.string (str l)) ∧ Fr v.ownBlock.toList w w' := by
  have hl0 : l.length ≠ 0 := by simpa using h0
  obtain ⟨g, cap, cur, rfl, hbg, hg, hnc, hcm, hcs, htake⟩ : ∃ g cap cur, v = .slice (some ⟨g, 0, none⟩) l.length cap ∧ 0 ≤ g ∧ w.heap[g]? = some (.cells cur 5 (0, 0)) ∧ l.length ≤ cap ∧ cap ≤ maxLen ∧ cur.size = cap * 1 ∧ cur.toList.take (l.length * 1) = byteCells l := by
    rcases h.row.2 with ⟨_, hz⟩ | ⟨g, cap, cur, hv, r⟩
    · exact absurd hz hl0
    · exact ⟨g, cap, cur, hv, r⟩
  have hSD : ∀ W : World, (Builtin.unsafeSliceData_ #[160] 199 #[.slice (some ⟨g, 0, none⟩) l.length cap]).run Tryz.prog W = .ok (.pointer (some ⟨g, 0, none⟩)) W := fun W => Lib.run_unsafeSliceData_row _ _ _ _ _ _ (by omega)
  have hUS : ∀ W : World, Fr [] w W → (Builtin.unsafeString_ #[199, 3] 9 #[.pointer (some ⟨g, 0, none⟩), .int .i64 l.length]).run Tryz.prog W = .ok (.string ⟨l.toArray⟩) (W.freeze ⟨g, 0, none⟩ l.length) := fun W hf => by
    have hg' := hf.keep hg (by simp)
    refine Lib.run_unsafeString_row W 199 3 9 5 Tryz.underlying199 Tryz.Builder_Extra_169.cellsByte g cur.size (by simp [World.shape?, hg']) l h0 (by omega) (by unfold maxLen at hcm; omega) ?_
    intro j x hx
    exact (row_fr h.row hf (by simp)).cells (g := g) rfl j (.int .u8 x.toNat) (by simp [Lib.byteCells, hx])
  have HB := Lib.hid h.blk; have HU := Lib.hid hUS
  have hgb : b ≠ g := fun e => h.ne (by simp [Value.ownBlock, e])
  clear h hUS hg htake hcs
  go_enter Tryz.func83, Tryz.ntmps83
  go_wp2_with fail
  refine reg_tree (Fr [g] w) 11 (.take 0 (.take 1 (.take 2 (.take 3 (.take 4 (.take 5 (.take 6 (.take 7 (.take 8 (.take 9 (.one 10 (.one 11 .nil)))))))))))) (by kernel_rfl) (by kernel_rfl) (by kernel_rfl) rfl ?_
  have F0 : Fr [] w w.drew := Fr.drew _ _
  generalize w.drew = WC at F0 ⊢
  have S0 : Fr [g] w WC := F0.mono (by simp)
  iterate 10 (refine tree_take (v := ?_) rfl rfl rfl S0 (fun w hS => ?_) ?_; rotate_left; (focus (have c1 := cell_of_blk (hS.keep HB.out (by simpa using hgb)) 1; clear hS; go_simp; rfl)); simp only [List.setIfInBounds_toArray, List.set_cons_succ, List.set_cons_zero])
  have hUC := HU.out WC F0
  have F1 : Fr [g] w (WC.freeze ⟨g, 0, none⟩ l.length) := S0.trans (Fr.freezeT (by simp) _)
  refine tree_one rfl rfl (fun K hK => ?_)
  go_simp
  try go_upon
  try go_simp
  refine hK _ _ F1 ?_
  clear hK K
  try simp only [Act.put, List.setIfInBounds_toArray, List.set_cons_succ, List.set_cons_zero]
  refine tree_last rfl rfl (fun K hK => ?_)
  go_simp
  try go_upon
  try go_simp
  refine hK _ _ ?_
  clear hK K
  refine noPanicN ?_
  go_wp2_with fail
  go_ret
  exact ⟨rfl, by simpa [Value.ownBlock] using F1⟩

end Go.Proofs.YtahfpadaoobkfaaGreatDoor

/-
  attest: a writer's numbers.
-/
namespace Go.Proofs.YtahfpadaoobkfaaGreatDoor
open Go.RowKit Go.Lib

theorem encT_le : ∀ (k z : Nat), z < 2 ^ (7 * (k + 1)) → (encZ z).length ≤ k + 1
  | 0, z, h => by rw [encZ_one (by simpa using h)]; simp
  | k + 1, z, h => by
    by_cases h1 : z < 128
    · rw [encZ_one h1]; simp
    · rw [encZ_more h1, List.length_cons]
      have h2 : z / 128 < 2 ^ (7 * (k + 1)) := by
        rw [Nat.div_lt_iff_lt_mul (by omega), show (128 : Nat) = 2 ^ 7 from rfl, ← Nat.pow_add]
        exact h
      have := encT_le k (z / 128) h2
      omega
theorem encT_len9 {z : Nat} (h : z ≤ 9223372036854775807) : (encZ z).length ≤ 9 := encT_le 8 z (by omega)
theorem Upd.of_fr {fp : List Nat} {w w' : World} (h : Fr [] w w') : Upd fp fp w w' := ⟨h.mono (by simp), fun _ h => .inl h⟩
theorem BldT.new (w : World) : BldT (w.alloc (.cells #[.pointer none, .slice none 0 0] 172)) w.heap.size (.pointer none) (.slice none 0 0) [] :=
  ⟨heap_alloc_new _ _, World.ownsRow_nil _ _ _ _, by simp [Value.ownBlock]⟩
theorem putN_nat (m : Nat) : putN (m : Int) = encZ (2 * m) := by simp [putN]
theorem putN_len (m : Nat) (hm : m ≤ 1000000000) : (putN (m : Int)).length ≤ 9 := by rw [putN_nat]; exact encT_len9 (by omega)
theorem putsN_len : ∀ (ns : List Int), (∀ n, n ∈ ns → 0 ≤ n ∧ n ≤ 1000000000) → (ns.flatMap putN).length ≤ 9 * ns.length
  | [], _ => by simp
  | n :: ns, h => by
    have h1 := h n List.mem_cons_self
    obtain ⟨m, rfl⟩ := Int.eq_ofNat_of_zero_le h1.1
    have h2 := putN_len m (by omega)
    have h3 := putsN_len ns (fun n hn => h n (List.mem_cons_of_mem _ hn))
    rw [List.flatMap_cons, List.length_append, List.length_cons]
    omega

set_option maxRecDepth 100000 in
set_option maxHeartbeats 1000000 in
theorem ints_c (b : Nat) (p v : Value) (l0 : List UInt8) (a : Option Addr) (cap : Nat) (ns : List Int) (w : World) (h : BldT w b p v l0) (hp : p = .pointer none ∨ p = .pointer (some ⟨b, 0, none⟩)) (hs : Sl w (.slice a ns.length cap) ns.length (ns.map (Value.int .i64)))
    (hfar : ∀ g, (Value.slice a ns.length cap).ownBlock = some g → g ∉ bldTB b v) (hn : ∀ n, n ∈ ns → 0 ≤ n ∧ n ≤ 1000000000) (hlen : l0.length + 9 * ns.length ≤ 1000000) :
    Calls Tryz.prog 81 #[.pointer (some ⟨b, 0, none⟩), .slice a ns.length cap] w fun e w' => e = .returned (.tuple #[]) ∧ ∃ p' v', (p' = .pointer none ∨ p' = .pointer (some ⟨b, 0, none⟩)) ∧ BldT w' b p' v' (l0 ++ ns.flatMap putN) ∧ Upd (bldTB b v) (bldTB b v') w w' := by
  have hln := hs.len
  have HS := Lib.hid hs; have HFa := Lib.hid hfar; have HN := Lib.hid hn; have HB := Lib.hid h; have HP := Lib.hid hp
  clear hs hfar hn h hp
  go_enter Tryz.func81, Tryz.ntmps81
  go_wp2_with fail
  go_loopw [10] (fun iv wr => ∃ (k : Nat) (p' v' : Value), iv = .int .i64 k ∧ k ≤ ns.length ∧ Hid (p' = .pointer none ∨ p' = .pointer (some ⟨b, 0, none⟩)) ∧ Hid (BldT wr b p' v' (l0 ++ (ns.take k).flatMap putN)) ∧ Hid (Upd (bldTB b v) (bldTB b v') w wr)) (fun iv _ => ns.length - (RowKit.intOf iv).toNat)
  case atStart => exact ⟨0, p, v, rfl, Nat.zero_le _, HP, by simpa using HB, Lib.hid (Upd.refl _ _)⟩
  case round =>
    obtain ⟨k, p', v', rfl, hk, HP', HB', HU⟩ := hrel
    by_cases hlt : k < ns.length
    · obtain ⟨sb, so, rfl, hc⟩ := HS.out.at_ (by omega)
      have c0 : w.cell? ⟨sb, so + k, none⟩ = some (.int .i64 ns[k]) := hc k _ (by simp [hlt])
      have c1 := HU.out.fr.cel c0 (HFa.out sb rfl)
      have hnk := HN.out _ (List.getElem_mem hlt)
      have HT : Hid ((ns.take (k + 1)).flatMap putN = (ns.take k).flatMap putN ++ putN ns[k]) := Lib.hid (by rw [List.take_succ_eq_append_getElem hlt, List.flatMap_append]; simp)
      have hfl := putsN_len (ns.take k) (fun n hn => HN.out n (List.mem_of_mem_take hn))
      have htl : (ns.take k).length = k := by simp; omega
      rw [htl] at hfl
      generalize ns[k] = z at *
      obtain ⟨m, rfl⟩ := Int.eq_ofNat_of_zero_le hnk.1
      have hpl := putN_len m (by omega)
      have CP := Lib.hid (putInt_c m (by omega) wr)
      rw [putN_nat] at hpl HT
      have HPL := Lib.hid hpl
      have HL : Hid ((l0 ++ (ns.take k).flatMap putN).length ≤ 100000000) := Lib.hid (by rw [List.length_append]; omega)
      clear hc c0 hpl hfl
      generalize encZ (2 * m) = E at *
      go_wp2_with fail
      refine CP.out.mono ?_
      rintro e w1 ⟨rfl, f1⟩
      have CW := Lib.hid (bwriteT_c b p' v' (l0 ++ (ns.take k).flatMap putN) (str E) w1 (HB'.out.fr f1 (by simp)) HP'.out (by have h1 := HL.out; have h2 := HPL.out; rw [str_size]; omega))
      have F1 := Lib.hid f1
      clear f1 CP
      go_wp2_with fail
      refine CW.out.mono ?_
      rintro e w2 ⟨rfl, v2, h2, u2⟩
      have HB2 := Lib.hid h2; have HU2 := Lib.hid (HU.out.trans ((Upd.of_fr F1.out).trans u2))
      clear h2 u2 CW
      go_wp2_with fail
      go_roundw
      case rel => exact ⟨k + 1, _, v2, by go_num, hlt, Lib.hid (.inr rfl), Lib.hid (by rw [HT.out, ← List.append_assoc]; exact HB2.out), HU2⟩
      case measure => simp [RowKit.intOf]; omega
    · obtain rfl : k = ns.length := by omega
      go_wp2_with fail
      go_end0
      exact ⟨rfl, p', v', HP'.out, by simpa using HB'.out, HU.out⟩

end Go.Proofs.YtahfpadaoobkfaaGreatDoor
