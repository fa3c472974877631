/-
  The reference's digest: Sum, Chain, Head.
-/
import Derived.Test.YtahfpadaoobkfaaGreatDoorQS10
import Derived.Test.YtahfpadaoobkfaaGreatDoorQS08
import Derived.Test.YtahfpadaoobkfaaGreatDoorQS02
namespace Go.Proofs.YtahfpadaoobkfaaGreatDoor
open Go.RowKit Go.Lib

theorem sl_valsR {w : World} {b : Nat} {ty : TypeId} {l : List Value} {n : Nat} (h : w.heap[b]? = some (.cells l.toArray ty (0, 0))) (hn : n ≤ 9223372036854775807) : Sl w (.slice (some ⟨b, 0, none⟩) n n) n l :=
  ⟨_, _, rfl, Nat.le_refl _, hn, fun _ => ⟨_, 0, rfl, fun j u hu => by
    rw [Nat.zero_add, cell_of_blk h]
    simpa using hu⟩⟩
theorem Sl.srcR {w : World} {b n c : Nat} {cs : List Value} (h : Sl w (.slice (some ⟨b, 0, none⟩) n c) n cs) (hn : 0 < n) : SrcAt w (.slice (some ⟨b, 0, none⟩) n c) n cs := h.src hn
theorem Sl.caps2 {w : World} {a : Option Addr} {n c : Nat} {cs : List Value} (h : Sl w (.slice a n c) n cs) : n ≤ c ∧ c ≤ 9223372036854775807 := by
  obtain ⟨a', c', he, h1, h2, _⟩ := h
  cases he
  exact ⟨h1, h2⟩
theorem outL_take (v : W8) {k : Nat} (hk : k < 8) : (v.list.take (k + 1)).flatMap outB = (v.list.take k).flatMap outB ++ outB (v.list.getD k 0) := by
  rw [List.take_succ_eq_append_getElem (by rw [W8.list_len]; exact hk), List.flatMap_append]
  simp [List.getD_eq_getElem?_getD, show k < v.list.length by rw [W8.list_len]; exact hk]
theorem outB_eq (x : Int) : outB x = [IntKind.u8.wrap (x / 16777216), IntKind.u8.wrap (x / 65536), IntKind.u8.wrap (x / 256), IntKind.u8.wrap x] := by
  simp [outB, byteI]
set_option maxRecDepth 100000 in
set_option maxHeartbeats 4000000 in
theorem sum2_c (s : ByteArray) (hs : s.size ≤ 1000000000000) (w : World) : Calls Tryz.prog 106 #[.string s] w fun e w' => e = .returned (.string (shaB s)) ∧ Fr [] w w' := by
  have CE := Lib.hid fun W => ext2_c s hs W
  go_enter Tryz.func106, Tryz.ntmps106
  go_wp2_with fail
  have hA := heap_alloc_new w (.cells (u32C H0.list).toArray 225)
  have FA := Fr.alloc [] w (.cells (u32C H0.list).toArray 225)
  change Calls _ _ _ (w.alloc (.cells (u32C H0.list).toArray 225)) _
  have HS0 : Hid (Sl (w.alloc (.cells (u32C H0.list).toArray 225)) (.slice (some ⟨w.heap.size, 0, none⟩) 8 8) 8 (u32C H0.list)) := Lib.hid (sl_valsR hA (by omega))
  generalize w.alloc (.cells (u32C H0.list).toArray 225) = W1 at *
  generalize w.heap.size = g0 at *
  have HF1 := Lib.hid FA
  clear hA FA
  refine (CE.out W1).mono ?_
  rintro e W2 ⟨gp, cp, rfl, hY⟩
  have hpm := padL_mod (bI s.data.toList)
  have hpl := padL_len (bI s.data.toList)
  rw [bI_len] at hpl
  have hpl2 : s.data.toList.length = s.size := rfl
  obtain ⟨m, hm⟩ : ∃ m, (padL (bI s.data.toList)).length / 64 = m := ⟨_, rfl⟩
  have hPm : (padL (bI s.data.toList)).length = 64 * m := by omega
  have hm1 : 1 ≤ m := by omega
  have hmb : m ≤ 100000000000 := by
    have : zN s.data.toList.length < 64 := Nat.mod_lt _ (by omega)
    omega
  have HM : Shut (shaB s = digB (blocks (padL (bI s.data.toList)) H0 m)) := ⟨by unfold shaB shaL digB; rw [hm]⟩
  have HPL : Hid ((padL (bI s.data.toList)).length = 64 * m) := Lib.hid hPm
  rw [hPm] at hY ⊢
  obtain ⟨gq, rfl⟩ := hY.some_ (by simp only [u8C, List.length_map]; omega)
  have HY := Lib.hid hY
  have HS2 := Lib.hid (HS0.out.same hY.fr)
  have HF2 := Lib.hid (HF1.out.trans hY.fr)
  clear hm hPm hpm hpl hpl2 hY HS0 HF1 CE
  generalize padL (bI s.data.toList) = PL at *
  have HSl : Hid (Sl W2 (.slice (some ⟨gq, 0, none⟩) (64 * m) cp) (64 * m) (u8C PL)) := Lib.hid (by
    have := HY.out.sl
    rw [show (u8C PL).length = 64 * m by rw [u8C, List.length_map]; exact HPL.out] at this
    exact this)
  clear HY
  have hcp : 64 * m ≤ cp ∧ cp ≤ 9223372036854775807 := HSl.out.caps2
  go_wp2_with fail
  go_loopw [3, 5] (fun v i wr => ∃ (k : Nat) (a : Option Addr) (c : Nat), k ≤ m ∧ v = .slice a 8 c ∧ i = .int .i64 (64 * (k : Int)) ∧ Hid (Fr [] W2 wr) ∧ Hid (Sl wr (.slice a 8 c) 8 (u32C (blocks PL H0 k).list))) (fun _ i _ => 64 * m - (RowKit.intOf i).toNat)
  case atStart => exact ⟨0, _, _, Nat.zero_le _, rfl, rfl, Lib.hid (Fr.refl _ _), HS2⟩
  case round =>
    obtain ⟨k, a, c, hk, rfl, rfl, HF, HV⟩ := hrel
    by_cases hlt : k < m
    · have hch : (chunkL PL k).length = 64 := by rw [chunkL, List.length_take, List.length_drop, HPL.out]; omega
      have HB : Hid (Calls Tryz.prog 130 #[.slice a 8 c, .slice (some ⟨gq, 64 * k, none⟩) 64 (cp - 64 * k)] wr fun e w' => ∃ ga cap, e = .returned (.slice ga 8 cap) ∧ RwY wr w' 225 (.slice ga 8 cap) (u32C (blocks PL H0 (k + 1)).list)) := Lib.hid (by
        refine block2_c a c (blocks PL H0 k) gq (64 * k) (cp - 64 * k) (chunkL PL k) wr HV.out ?_ hch
        refine ⟨_, _, rfl, by omega, by omega, fun _ => ⟨gq, 64 * k, rfl, fun j u hu => ?_⟩⟩
        have hj : j < 64 := by
          have := (List.getElem?_eq_some_iff.1 hu).1
          rw [List.length_map, hch] at this; exact this
        obtain ⟨b', off', he, hc⟩ := HSl.out.at_ (by omega)
        cases he
        refine HF.out.cel ?_ (by simp)
        rw [show 64 * k + j = 0 + (64 * k + j) by omega]
        refine hc (64 * k + j) u ?_
        rw [List.getElem?_map] at hu ⊢
        rwa [chunkL, List.getElem?_take_of_lt hj, List.getElem?_drop] at hu)
      clear hch
      go_wp2_with fail
      rw [show 64 * k + 64 - 64 * k = 64 by omega]
      refine HB.out.mono ?_
      rintro e W5 ⟨gb, capb, rfl, hY5⟩
      have HV5 : Hid (Sl W5 (.slice gb 8 capb) 8 (u32C (blocks PL H0 (k + 1)).list)) := Lib.hid hY5.sl
      have HF5 := Lib.hid (HF.out.trans hY5.fr)
      clear hY5 HB HV HF
      go_wp2_with fail
      go_roundw
      case rel => exact ⟨k + 1, gb, capb, by omega, rfl, congrArg (Value.int .i64) (by omega), HF5, HV5⟩
      case measure => simp [RowKit.intOf]; omega
    · have hkm : m ≤ k := by omega
      have HMk : Shut (shaB s = digB (blocks PL H0 k)) := ⟨by rw [HM.out, show k = m by omega]⟩
      generalize blocks PL H0 k = V at *
      generalize k = kr at *
      obtain ⟨bv, ov, rfl, hcv⟩ := HV.out.at_ (by omega)
      have HQ : Hid (∀ j, j < 8 → wr.cell? ⟨bv, ov + j, none⟩ = some (.int .u32 (V.list.getD j 0))) := Lib.hid fun j hj => hcv j _ (by
        have hj2 : j < V.list.length := by rw [W8.list_len]; exact hj
        simp [u32C, hj2])
      have hbl : bv < wr.heap.size := cell_ltB (HQ.out 0 (by omega))
      have HFw := Lib.hid (HF2.out.trans HF.out)
      clear hcv HV HF HSl HS2 HM HPL
      generalize wr = W6 at *
      go_wp2_with fail
      go_loopw [6, 7] (fun v i wr => ∃ (k n : Nat) (ga : Option Addr) (cap : Nat), k ≤ 8 ∧ n = 4 * k ∧ v = .slice ga n cap ∧ i = .int .i64 k ∧ Hid (wr.ownsRow 0 5 1 (.slice ga n cap) n (u8C ((V.list.take k).flatMap outB)) ∧ (∀ g, (Value.slice ga n cap).ownBlock = some g → W6.heap.size ≤ g) ∧ Fr [] W6 wr)) (fun _ i _ => 8 - (RowKit.intOf i).toNat)
      case atStart => exact ⟨0, 0, none, 0, Nat.zero_le _, rfl, rfl, rfl, Lib.hid ⟨World.ownsRow_nil _ _ _ _, (fun g hg => by cases hg), Fr.refl _ _⟩⟩
      case round =>
        obtain ⟨k, n, ga, cap, hk, hn, rfl, rfl, HO⟩ := hrel
        have HN := Lib.hid hn
        have hn32 : n ≤ 32 := by omega
        clear hn
        by_cases hlt : k < 8
        · have e0 : wr.cell? ⟨bv, ov + k, none⟩ = some (.int .u32 (V.list.getD k 0)) := HO.out.2.2.cel (HQ.out k hlt) (by simp)
          have HT : Hid ((V.list.take (k + 1)).flatMap outB = (V.list.take k).flatMap outB ++ [IntKind.u8.wrap (V.list.getD k 0 / 16777216), IntKind.u8.wrap (V.list.getD k 0 / 65536), IntKind.u8.wrap (V.list.getD k 0 / 256), IntKind.u8.wrap (V.list.getD k 0)]) := Lib.hid (by rw [outL_take V hlt, outB_eq])
          have hbv : bv ∉ (Value.slice ga n cap).ownBlock.toList := fun hm => by
            have := HO.out.2.1 bv (by simpa using hm)
            omega
          generalize V.list.getD k 0 = x at *
          go_wp2_with fail
          refine reg_tree (Fr (Value.slice ga n cap).ownBlock.toList wr) 26 (.take 0 (.take 1 (.take 2 (.take 3 (.take 4 (.take 5 (.take 6 (.take 7 (.take 8 (.take 9 (.take 10 (.take 11 (.take 12 (.take 13 (.take 14 (.take 15 (.take 16 (.take 17 (.take 18 (.take 19 (.take 20 (.take 21 (.take 22 (.take 23 (.one 24 (.one 25 (.one 26 .nil))))))))))))))))))))))))))) (by kernel_rfl) (by kernel_rfl) (by kernel_rfl) rfl ?_
          have F0 : Fr [] wr wr.drew := Fr.drew _ _
          generalize wr.drew = WC at F0 ⊢
          have S0 : (Fr (Value.slice ga n cap).ownBlock.toList wr) WC := F0.mono (by simp)
          (refine tree_take (v := ?_) rfl rfl rfl S0 (fun w hS => ?_) ?_; rotate_left; (focus (clear hS; go_simp; rfl)); simp only [List.setIfInBounds_toArray, List.set_cons_succ, List.set_cons_zero])
          (refine tree_take (v := ?_) rfl rfl rfl S0 (fun w hS => ?_) ?_; rotate_left; (focus (clear hS; go_simp; rfl)); simp only [List.setIfInBounds_toArray, List.set_cons_succ, List.set_cons_zero])
          (refine tree_take (v := ?_) rfl rfl rfl S0 (fun w hS => ?_) ?_; rotate_left; (focus (clear hS; go_simp; rfl)); simp only [List.setIfInBounds_toArray, List.set_cons_succ, List.set_cons_zero])
          (refine tree_take (v := ?_) rfl rfl rfl S0 (fun w hS => ?_) ?_; rotate_left; (focus (clear hS; go_simp; first | rfl | (refine idx_ok (k := k) ?_ ?_ <;> omega))); simp only [List.setIfInBounds_toArray, List.set_cons_succ, List.set_cons_zero])
          (refine tree_take (v := ?_) rfl rfl rfl S0 (fun w hS => ?_) ?_; rotate_left; (focus (have d' := hS.cel e0 hbv; clear hS; go_simp; rfl)); simp only [List.setIfInBounds_toArray, List.set_cons_succ, List.set_cons_zero])
          (refine tree_take (v := ?_) rfl rfl rfl S0 (fun w hS => ?_) ?_; rotate_left; (focus (clear hS; go_simp; rfl)); simp only [List.setIfInBounds_toArray, List.set_cons_succ, List.set_cons_zero])
          (refine tree_take (v := ?_) rfl rfl rfl S0 (fun w hS => ?_) ?_; rotate_left; (focus (clear hS; go_simp; rfl)); simp only [List.setIfInBounds_toArray, List.set_cons_succ, List.set_cons_zero])
          (refine tree_take (v := ?_) rfl rfl rfl S0 (fun w hS => ?_) ?_; rotate_left; (focus (clear hS; go_simp; rfl)); simp only [List.setIfInBounds_toArray, List.set_cons_succ, List.set_cons_zero])
          (refine tree_take (v := ?_) rfl rfl rfl S0 (fun w hS => ?_) ?_; rotate_left; (focus (clear hS; go_simp; rfl)); simp only [List.setIfInBounds_toArray, List.set_cons_succ, List.set_cons_zero])
          (refine tree_take (v := ?_) rfl rfl rfl S0 (fun w hS => ?_) ?_; rotate_left; (focus (clear hS; go_simp; first | rfl | (refine idx_ok (k := k) ?_ ?_ <;> omega))); simp only [List.setIfInBounds_toArray, List.set_cons_succ, List.set_cons_zero])
          (refine tree_take (v := ?_) rfl rfl rfl S0 (fun w hS => ?_) ?_; rotate_left; (focus (have d' := hS.cel e0 hbv; clear hS; go_simp; rfl)); simp only [List.setIfInBounds_toArray, List.set_cons_succ, List.set_cons_zero])
          (refine tree_take (v := ?_) rfl rfl rfl S0 (fun w hS => ?_) ?_; rotate_left; (focus (clear hS; go_simp; rfl)); simp only [List.setIfInBounds_toArray, List.set_cons_succ, List.set_cons_zero])
          (refine tree_take (v := ?_) rfl rfl rfl S0 (fun w hS => ?_) ?_; rotate_left; (focus (clear hS; go_simp; rfl)); simp only [List.setIfInBounds_toArray, List.set_cons_succ, List.set_cons_zero])
          (refine tree_take (v := ?_) rfl rfl rfl S0 (fun w hS => ?_) ?_; rotate_left; (focus (clear hS; go_simp; rfl)); simp only [List.setIfInBounds_toArray, List.set_cons_succ, List.set_cons_zero])
          (refine tree_take (v := ?_) rfl rfl rfl S0 (fun w hS => ?_) ?_; rotate_left; (focus (clear hS; go_simp; rfl)); simp only [List.setIfInBounds_toArray, List.set_cons_succ, List.set_cons_zero])
          (refine tree_take (v := ?_) rfl rfl rfl S0 (fun w hS => ?_) ?_; rotate_left; (focus (clear hS; go_simp; first | rfl | (refine idx_ok (k := k) ?_ ?_ <;> omega))); simp only [List.setIfInBounds_toArray, List.set_cons_succ, List.set_cons_zero])
          (refine tree_take (v := ?_) rfl rfl rfl S0 (fun w hS => ?_) ?_; rotate_left; (focus (have d' := hS.cel e0 hbv; clear hS; go_simp; rfl)); simp only [List.setIfInBounds_toArray, List.set_cons_succ, List.set_cons_zero])
          (refine tree_take (v := ?_) rfl rfl rfl S0 (fun w hS => ?_) ?_; rotate_left; (focus (clear hS; go_simp; rfl)); simp only [List.setIfInBounds_toArray, List.set_cons_succ, List.set_cons_zero])
          (refine tree_take (v := ?_) rfl rfl rfl S0 (fun w hS => ?_) ?_; rotate_left; (focus (clear hS; go_simp; rfl)); simp only [List.setIfInBounds_toArray, List.set_cons_succ, List.set_cons_zero])
          (refine tree_take (v := ?_) rfl rfl rfl S0 (fun w hS => ?_) ?_; rotate_left; (focus (clear hS; go_simp; rfl)); simp only [List.setIfInBounds_toArray, List.set_cons_succ, List.set_cons_zero])
          (refine tree_take (v := ?_) rfl rfl rfl S0 (fun w hS => ?_) ?_; rotate_left; (focus (clear hS; go_simp; rfl)); simp only [List.setIfInBounds_toArray, List.set_cons_succ, List.set_cons_zero])
          (refine tree_take (v := ?_) rfl rfl rfl S0 (fun w hS => ?_) ?_; rotate_left; (focus (clear hS; go_simp; first | rfl | (refine idx_ok (k := k) ?_ ?_ <;> omega))); simp only [List.setIfInBounds_toArray, List.set_cons_succ, List.set_cons_zero])
          (refine tree_take (v := ?_) rfl rfl rfl S0 (fun w hS => ?_) ?_; rotate_left; (focus (have d' := hS.cel e0 hbv; clear hS; go_simp; rfl)); simp only [List.setIfInBounds_toArray, List.set_cons_succ, List.set_cons_zero])
          (refine tree_take (v := ?_) rfl rfl rfl S0 (fun w hS => ?_) ?_; rotate_left; (focus (clear hS; go_simp; rfl)); simp only [List.setIfInBounds_toArray, List.set_cons_succ, List.set_cons_zero])
          refine tree_one rfl rfl (fun K hK => ?_)
          go_simp
          have fa := Fr.alloc [] WC (.cells #[.int .u8 (IntKind.u8.wrap (x / 16777216)), .int .u8 (IntKind.u8.wrap (x / 65536)), .int .u8 (IntKind.u8.wrap (x / 256)), .int .u8 (IntKind.u8.wrap x)] 5)
          have hN := heap_alloc_new WC (.cells #[.int .u8 (IntKind.u8.wrap (x / 16777216)), .int .u8 (IntKind.u8.wrap (x / 65536)), .int .u8 (IntKind.u8.wrap (x / 256)), .int .u8 (IntKind.u8.wrap x)] 5)
          have S1 := S0.trans (fa.mono (fp2 := (Value.slice ga n cap).ownBlock.toList) (by simp))
          refine hK _ _ S1 ?_
          replace F0 := F0.trans fa
          clear S0
          have S0 := S1
          clear S1
          generalize WC.alloc (.cells #[.int .u8 (IntKind.u8.wrap (x / 16777216)), .int .u8 (IntKind.u8.wrap (x / 65536)), .int .u8 (IntKind.u8.wrap (x / 256)), .int .u8 (IntKind.u8.wrap x)] 5) = WD at *
          clear hK K
          try simp only [Act.put, List.setIfInBounds_toArray, List.set_cons_succ, List.set_cons_zero]
          refine tree_one rfl rfl (fun K hK => ?_)
          refine wp_append_src (.tmp 28) (.tmp 52) 160 5 (.int .u8 0) 1 1 rfl Tryz.underlying160 infoBy rfl (by decide) (.slice ga n cap) n (u8C ((V.list.take k).flatMap outB)) rfl (row_fr HO.out.1 F0 (by simp)) (.slice (some ⟨WC.heap.size, 0, none⟩) 4 4) 4 [.int .u8 (IntKind.u8.wrap (x / 16777216)), .int .u8 (IntKind.u8.wrap (x / 65536)), .int .u8 (IntKind.u8.wrap (x / 256)), .int .u8 (IntKind.u8.wrap x)] rfl ((sl_valsR hN (by omega)).srcR (by omega)) rfl (by simp [Value.oneCell']) (by omega) (by omega) ?_
          intro gb capb W9 r9 f9 o9
          refine hK _ _ (S0.trans f9) ?_
          clear hK K
          try simp only [Act.put, List.setIfInBounds_toArray]
          refine tree_last rfl rfl (fun K hK => ?_)
          go_simp
          try go_upon
          try go_simp
          refine hK _ _ ?_
          clear hK K
          refine noPanicN ?_
          have H9 : Hid (W9.ownsRow 0 5 1 (.slice gb (n + 4) capb) (n + 4) (u8C ((V.list.take (k + 1)).flatMap outB)) ∧ (∀ g, (Value.slice gb (n + 4) capb).ownBlock = some g → W6.heap.size ≤ g) ∧ Fr [] W6 W9) := Lib.hid ⟨by rw [HT.out, u8C, List.map_append]; exact r9, fun g hg => by
            rcases o9 with h4 | h4
            · exact HO.out.2.1 g (h4 ▸ hg)
            · rw [hg] at h4
              have := (HO.out.2.2.trans F0).size
              simp at h4; omega, (HO.out.2.2.trans F0).step f9 (fun i hi => .inr (HO.out.2.1 i (by simpa using hi)))⟩
          clear r9 f9 o9 hN fa S0 F0 e0 HO HT hbv
          go_wp2_with fail
          go_roundw
          case rel => exact ⟨k + 1, n + 4, gb, capb, by omega, by have := HN.out; omega, rfl, by go_num, H9⟩
          case measure => simp [RowKit.intOf]; omega
        · have e8 : V.list.take k = V.list := List.take_of_length_le (by rw [W8.list_len]; omega)
          have hn8 : n = 32 := by have := HN.out; omega
          have sl9 := sl_of_row HO.out.1
          rw [e8] at sl9
          have ho : (V.list.flatMap outB) = outL V := rfl
          rw [ho, u8C_bytes (outL_b V)] at sl9
          have HD : Shut (shaB s = ⟨((outL V).map toB).toArray⟩) := ⟨by rw [HMk.out]; rfl⟩
          have HF9 := Lib.hid (HFw.out.trans HO.out.2.2)
          have hzl : ((outL V).map toB).length = n := by rw [List.length_map, outL_len, hn8]
          clear e8 ho HO HN HQ
          generalize (outL V).map toB = zs at *
          go_wp2_with (first | ((with_reducible refine wpList_of_wp (o := ⟨some 55, _, _, _, _, _⟩) rfl (fun K hK => ?_)); apply stopD; case _other => exact trivial))
          (refine stopD ?_ ?_; rotate_left; exact trivial)
          refine wp_sl_str (.tmp 54) rfl ga n cap zs rfl sl9 (by omega) hzl ?_
          refine hK _ _ ?_
          clear hK K sl9 hzl
          generalize (⟨zs.toArray⟩ : ByteArray) = S at *
          go_wp2_with fail
          go_ret
          exact ⟨by rw [HD.out]; rfl, HF9.out⟩

end Go.Proofs.YtahfpadaoobkfaaGreatDoor

/-
  The reference's PutInt and PutString (lengths).
-/
namespace Go.Proofs.YtahfpadaoobkfaaGreatDoor
open Go.RowKit Go.Lib

end Go.Proofs.YtahfpadaoobkfaaGreatDoor

/-
  The reference's Int and String: what they read is what the model reads.
-/
namespace Go.Proofs.YtahfpadaoobkfaaGreatDoor
open Go.RowKit Go.Lib

/-! ### Numbers as they are stored -/
def zigI (n : Int) : Int := if n < 0 then -n * 2 - 1 else n * 2
theorem encZ_le : ∀ (k z : Nat), z < 2 ^ (7 * (k + 1)) → (encZ z).length ≤ k + 1
  | 0, z, h => by rw [encZ_one (by simpa using h)]; simp
  | k + 1, z, h => by
    by_cases h1 : z < 128
    · rw [encZ_one h1]; simp
    · rw [encZ_more h1, List.length_cons]
      have h2 : z / 128 < 2 ^ (7 * (k + 1)) := by
        rw [Nat.div_lt_iff_lt_mul (by omega), show (128 : Nat) = 2 ^ 7 from rfl, ← Nat.pow_add]
        exact h
      have := encZ_le k (z / 128) h2
      omega
theorem encZ_len9 {z : Nat} (h : z ≤ 9223372036854775807) : (encZ z).length ≤ 9 := encZ_le 8 z (by omega)
theorem unz_zig (z : Nat) : zigI (unz z) = z := by
  simp only [zigI, unz]
  split <;> split <;> omega
theorem unz_range {z : Nat} (h : z ≤ 9223372036854775807) : -4611686018427387904 ≤ unz z ∧ unz z ≤ 4611686018427387903 := by
  simp only [unz]
  split <;> omega
theorem zigzagI_c (n : Int) (hn : -4611686018427387904 ≤ n ∧ n ≤ 4611686018427387903) (w : World) : Calls Tryz.prog 107 #[.int .i64 n] w fun e w' => e = .returned (.int .u64 (zigI n)) ∧ w = w' := by
  by_cases h : n < 0
  · have hz : zigI n = -n * 2 - 1 := by simp [zigI, h]
    rw [hz]
    go_enter Tryz.func107, Tryz.ntmps107
    go_wp2_with fail
    go_ret
    exact ⟨rfl, rfl⟩
  · have hz : zigI n = n * 2 := by simp [zigI, h]
    rw [hz]
    go_enter Tryz.func107, Tryz.ntmps107
    go_wp2_with fail
    go_ret
    exact ⟨rfl, rfl⟩

set_option maxRecDepth 100000 in
set_option maxHeartbeats 1000000 in
theorem putIntZ_c (n : Int) (Z : Nat) (hZ : Z ≤ 9223372036854775807) (hn : unz Z = n) (hb : ¬ n < -4611686018427387903) (w : World) : Calls Tryz.prog 76 #[.int .i64 n] w fun e w' => e = .returned (.tuple #[.string (str (encZ Z)), .int .i64 0]) ∧ Fr [] w w' := by
  have hr := unz_range hZ
  have hz := unz_zig Z
  rw [hn] at hr hz
  have CZ' := zigzagI_c n hr w
  rw [hz] at CZ'
  have CZ := Lib.hid CZ'
  clear hz CZ' hn
  go_enter Tryz.func76, Tryz.ntmps76
  go_wp2_with fail
  refine CZ.out.mono ?_
  rintro e w1 ⟨rfl, rfl⟩
  clear CZ
  go_wp2_with fail
  go_loopw [4, 5] (fun zv ov wr => ∃ (z : Nat) (l : List UInt8), zv = .int .u64 z ∧ z ≤ 9223372036854775807 ∧ l.length ≤ 100 ∧ Hid (encZ Z = l ++ encZ z ∧ wr.ownsRow 0 5 1 ov l.length (byteCells l) ∧ (∀ g, ov.ownBlock = some g → w.heap.size ≤ g) ∧ Fr [] w wr)) (fun zv _ _ => (RowKit.intOf zv).toNat)
  case atStart => exact ⟨Z, [], rfl, by omega, by simp, Lib.hid ⟨rfl, World.ownsRow_nil _ _ _ _, (fun g hg => by cases hg), Fr.refl _ _⟩⟩
  case round =>
    obtain ⟨z, l, rfl, hz, hl, H⟩ := hrel
    obtain ⟨va, vp, rfl⟩ : ∃ va vp, u5 = .slice va l.length vp := by
      rcases H.out.2.1.2 with ⟨rfl, h0⟩ | ⟨g, cap, cur, rfl, _⟩
      · exact ⟨none, 0, by rw [h0]⟩
      · exact ⟨_, _, rfl⟩
    by_cases h128 : z < 128
    · go_wp2_with (first | ((with_reducible refine wpList_of_wp (o := ⟨some 29, _, _, _, _, _⟩) rfl (fun K hK => ?_)); apply stopD; case _other => exact trivial))
      (refine stopD ?_ ?_; rotate_left; exact trivial)
      have fa := Fr.alloc [] wr (.cells #[.int .u8 (z : Int)] 5)
      refine wp_append_src (.tmp 25) (.tmp 28) 160 5 (.int .u8 0) 1 1 rfl Tryz.underlying160 infoBy rfl (by decide) (.slice va l.length vp) l.length (byteCells l) rfl (row_fr H.out.2.1 fa (by simp)) (.slice (some ⟨wr.heap.size, 0, none⟩) 1 1) 1 [.int .u8 (z : Int)] rfl (src_one wr _ _) (by simp) (by simp [Value.oneCell']) (by omega) (by omega) ?_
      intro ga cap2 W4 r4 f4 o4
      have F4 : Fr [] w W4 := (H.out.2.2.2.trans fa).step f4 (fun i hi => .inr (H.out.2.2.1 i (by simpa using hi)))
      have hy : ∀ g, (Value.slice ga (l.length + 1) cap2).ownBlock = some g → w.heap.size ≤ g := fun g hg => by
        rcases o4 with h | h
        · exact H.out.2.2.1 g (h ▸ hg)
        · rw [hg] at h
          have := H.out.2.2.2.size
          simp at h; omega
      refine hK _ _ ?_
      clear hK K
      have e1 : byteCells l ++ [.int .u8 (z : Int)] = byteCells (l ++ [UInt8.ofNat z]) := by simp [byteCells]; omega
      rw [e1] at r4
      have sl4 := sl_of_row r4
      refine wpList_of_wp rfl (fun K hK => ?_)
      refine wp_sl_str (.tmp 29) rfl ga (l.length + 1) cap2 (l ++ [UInt8.ofNat z]) rfl sl4 (by omega) (by simp) ?_
      refine hK _ _ ?_
      clear hK K sl4 r4 f4 o4 fa
      have HE : Shut (str (encZ Z) = ⟨(l ++ [UInt8.ofNat z]).toArray⟩) := ⟨by rw [H.out.1, encZ_one h128]; rfl⟩
      have HF := Lib.hid F4
      clear F4 hy
      generalize (⟨(l ++ [UInt8.ofNat z]).toArray⟩ : ByteArray) = S at *
      go_wp2_with fail
      go_ret2
      exact ⟨by rw [HE.out]; rfl, HF.out⟩
    · go_wp2_with (first | ((with_reducible refine wpList_of_wp (o := ⟨some 22, _, _, _, _, _⟩) rfl (fun K hK => ?_)); apply stopD; case _other => exact trivial))
      (refine stopD ?_ ?_; rotate_left; exact trivial)
      have fa := Fr.alloc [] wr (.cells #[.int .u8 ((z : Int) % 128 + 128)] 5)
      refine wp_append_src (.tmp 16) (.tmp 21) 160 5 (.int .u8 0) 1 1 rfl Tryz.underlying160 infoBy rfl (by decide) (.slice va l.length vp) l.length (byteCells l) rfl (row_fr H.out.2.1 fa (by simp)) (.slice (some ⟨wr.heap.size, 0, none⟩) 1 1) 1 [.int .u8 ((z : Int) % 128 + 128)] rfl (src_one wr _ _) (by simp) (by simp [Value.oneCell']) (by omega) (by omega) ?_
      intro ga cap2 W4 r4 f4 o4
      have F4 : Fr [] w W4 := (H.out.2.2.2.trans fa).step f4 (fun i hi => .inr (H.out.2.2.1 i (by simpa using hi)))
      have hy : ∀ g, (Value.slice ga (l.length + 1) cap2).ownBlock = some g → w.heap.size ≤ g := fun g hg => by
        rcases o4 with h | h
        · exact H.out.2.2.1 g (h ▸ hg)
        · rw [hg] at h
          have := H.out.2.2.2.size
          simp at h; omega
      refine hK _ _ ?_
      clear hK K
      have e1 : byteCells l ++ [.int .u8 ((z : Int) % 128 + 128)] = byteCells (l ++ [UInt8.ofNat (z % 128 + 128)]) := by simp [byteCells]; omega
      rw [e1] at r4
      have H4 : Hid (encZ Z = (l ++ [UInt8.ofNat (z % 128 + 128)]) ++ encZ (z / 128) ∧ W4.ownsRow 0 5 1 (.slice ga (l.length + 1) cap2) (l ++ [UInt8.ofNat (z % 128 + 128)]).length (byteCells (l ++ [UInt8.ofNat (z % 128 + 128)])) ∧ (∀ g, (Value.slice ga (l.length + 1) cap2).ownBlock = some g → w.heap.size ≤ g) ∧ Fr [] w W4) := Lib.hid ⟨by rw [H.out.1, encZ_more h128]; simp, by simpa using r4, hy, F4⟩
      clear r4 f4 o4 fa F4 hy
      go_wp2_with fail
      go_roundw
      case rel => exact ⟨z / 128, _, by go_num, by omega, (by
        have h5 := congrArg List.length H4.out.1
        have h6 := encZ_len9 hZ
        rw [List.length_append] at h5
        omega), H4⟩
      case measure => simp [RowKit.intOf]; omega

/-! ### What is read is what was stored -/
/-- The number of bytes that follow each other, the last of which is less than 128. -/
def valD : List UInt8 → Nat
  | [] => 0
  | b :: l => b.toNat % 128 + 128 * valD l
end Go.Proofs.YtahfpadaoobkfaaGreatDoor

/-
  The plain model of chapter 25: attestations, seals, which hand is shown.
-/
namespace Go.Proofs.YtahfpadaoobkfaaGreatDoor

structure Hd where
  car : Int
  lev : Int
  sig : ByteArray
structure Dl where
  caller : Int
  called : Int
  at_ : Int
  serial : Int
structure At where
  dial : Dl
  hands : List Hd
instance : Inhabited Hd := ⟨⟨0, 0, ByteArray.empty⟩⟩

/-- Are the hands formed, behind one with a carrier and a level? -/
def fmGo : Int → Int → List Hd → Bool
  | _, _, [] => true
  | c, v, h :: l => isInB h.car 0 7 && !(h.car == c) && isInB h.lev 0 v && decide (h.sig.size = 32) && fmGo h.car h.lev l
def dlB (d : Dl) : Bool := isInB d.caller 0 99999999 && isInB d.called 0 99999999 && isInB d.at_ 0 10000000 && isInB d.serial 0 1000000
def fmB (a : At) : Bool := dlB a.dial && isInB a.hands.length 1 8 && fmGo (-1) 3 a.hands

def putN (n : Int) : List UInt8 := encZ (2 * n.toNat)
/-- The content of a hand. -/
def cntM (d : Dl) (i : Nat) (h : Hd) (before : ByteArray) : List UInt8 :=
  encZ 14 ++ putN d.caller ++ putN d.called ++ putN d.at_ ++ putN d.serial ++ putN i ++ putN h.car ++ putN h.lev ++ bts before
def leafM (s : List UInt8) : ByteArray := shaB (str (0 :: s))
def nodeM (a b : ByteArray) : ByteArray := shaB (str (1 :: (bts a ++ bts b)))
def sealM (key : ByteArray) (c : List UInt8) : ByteArray := nodeM key (leafM c)
/-- The hands with their contents. -/
def hdsM (d : Dl) : Nat → ByteArray → List Hd → List (Hd × List UInt8)
  | _, _, [] => []
  | i, b, h :: l => (h, cntM d i h b) :: hdsM d (i + 1) h.sig l
def hdsA (a : At) : List (Hd × List UInt8) := hdsM a.dial 0 ByteArray.empty a.hands
def keyAt (keys : List ByteArray) (c : Int) : ByteArray := keys.getD c.toNat ByteArray.empty
def rightM (keys : List ByteArray) (x : Hd × List UInt8) : Bool := decide (x.1.sig = sealM (keyAt keys x.1.car) x.2)
def shownM (keys : List ByteArray) (x : Hd × List UInt8) : Bool := !decide (keyAt keys x.1.car = ByteArray.empty) && rightM keys x
def keysB (keys : List ByteArray) : Bool := decide (keys.length = 8) && keys.all fun k => decide (k.size = 0) || decide (k.size = 32)
/-- The first one that is shown: its level, its index. -/
def chkM (keys : List ByteArray) (a : At) : Int × Int := match (hdsA a).findIdx? (shownM keys) with
  | none => (0, -1)
  | some i => (((hdsA a).getD i default).1.lev, i)

/-- Levels fall. -/
theorem fmGo_le : ∀ (l : List Hd) (c v : Int), fmGo c v l = true → ∀ h, h ∈ l → 0 ≤ h.car ∧ h.car ≤ 7 ∧ 0 ≤ h.lev ∧ h.lev ≤ v ∧ h.sig.size = 32
  | [], _, _, _, _, hm => by cases hm
  | x :: l, c, v, hf, h, hm => by
    simp only [fmGo, isInB, Bool.and_eq_true, decide_eq_true_eq] at hf
    obtain ⟨⟨⟨⟨h1, _⟩, h3⟩, h4⟩, h5⟩ := hf
    rcases List.mem_cons.1 hm with rfl | hm
    · exact ⟨h1.1, h1.2, h3.1, h3.2, h4⟩
    · obtain ⟨k1, k2, k3, k4, k5⟩ := fmGo_le l _ _ h5 h hm
      exact ⟨k1, k2, k3, by omega, k5⟩

end Go.Proofs.YtahfpadaoobkfaaGreatDoor
