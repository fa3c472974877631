/-
  The reference's digest: Sum, Chain, Head.
-/
import Derived.Test.YtbogljpafpkikaaGreatDoorQR2b
import Derived.Test.YtbogljpafpkikaaGreatDoorQJn5
namespace Go.Proofs.YtbogljpafpkikaaGreatDoor
open Go.RowKit Go.Lib

theorem sl_valsR {w : World} {b : Nat} {ty : TypeId} {l : List Value} {n : Nat} (h : w.heap[b]? = some (.cells l.toArray ty (0, 0))) (hn : n ≤ 9223372036854775807) : Sl w (.slice (some ⟨b, 0, none⟩) n n) n l :=
  ⟨_, _, rfl, Nat.le_refl _, hn, fun _ => ⟨_, 0, rfl, fun j u hu => by
    rw [Nat.zero_add, cell_of_blk h]
    simpa using hu⟩⟩
theorem Sl.srcR {w : World} {b n c : Nat} {cs : List Value} (h : Sl w (.slice (some ⟨b, 0, none⟩) n c) n cs) (hn : 0 < n) : SrcAt w (.slice (some ⟨b, 0, none⟩) n c) n cs := h.src hn
theorem Sl.caps2 {w : World} {a : Option Addr} {n c : Nat} {cs : List Value} (h : Sl w (.slice a n c) n cs) : n ≤ c ∧ c ≤ 9223372036854775807 := by
  obtain ⟨a', c', he, h1, h2, _⟩ := h
  cases he
  exact ⟨h1, h2⟩
theorem outL_take (v : W8) {k : Nat} (hk : k < 8) : (v.list.take (k + 1)).flatMap outB = (v.list.take k).flatMap outB ++ outB (v.list.getD k 0) := by
  rw [List.take_succ_eq_append_getElem (by rw [W8.list_len]; exact hk), List.flatMap_append]
  simp [List.getD_eq_getElem?_getD, show k < v.list.length by rw [W8.list_len]; exact hk]
theorem outB_eq (x : Int) : outB x = [IntKind.u8.wrap (x / 16777216), IntKind.u8.wrap (x / 65536), IntKind.u8.wrap (x / 256), IntKind.u8.wrap x] := by
  simp [outB, byteI]
theorem bytes_of {l : List Int} (h : ∀ x, x ∈ l → 0 ≤ x ∧ x < 256) : u8C l = byteCells (l.map toB) := u8C_bytes h

set_option maxRecDepth 100000 in
set_option maxHeartbeats 4000000 in
theorem sum2_c (s : ByteArray) (hs : s.size ≤ 1000000000000) (w : World) : Calls Tryz.prog 26 #[.string s] w fun e w' => e = .returned (.string (shaB s)) ∧ Fr [] w w' := by
  have CE := Lib.hid fun W => ext2_c s hs W
  go_enter Tryz.func26, Tryz.ntmps26
  go_wp2_with fail
  have hA := heap_alloc_new w (.cells (u32C H0.list).toArray 106)
  have FA := Fr.alloc [] w (.cells (u32C H0.list).toArray 106)
  change Calls _ _ _ (w.alloc (.cells (u32C H0.list).toArray 106)) _
  have HS0 : Hid (Sl (w.alloc (.cells (u32C H0.list).toArray 106)) (.slice (some ⟨w.heap.size, 0, none⟩) 8 8) 8 (u32C H0.list)) := Lib.hid (sl_valsR hA (by omega))
  generalize w.alloc (.cells (u32C H0.list).toArray 106) = W1 at *
  generalize w.heap.size = g0 at *
  have HF1 := Lib.hid FA
  clear hA FA
  refine (CE.out W1).mono ?_
  rintro e W2 ⟨gp, cp, rfl, hY⟩
  have hpm := padL_mod (bI s.data.toList)
  have hpl := padL_len (bI s.data.toList)
  rw [bI_len] at hpl
  have hpl2 : s.data.toList.length = s.size := rfl
  obtain ⟨m, hm⟩ : ∃ m, (padL (bI s.data.toList)).length / 64 = m := ⟨_, rfl⟩
  have hPm : (padL (bI s.data.toList)).length = 64 * m := by omega
  have hm1 : 1 ≤ m := by omega
  have hmb : m ≤ 100000000000 := by
    have : zN s.data.toList.length < 64 := Nat.mod_lt _ (by omega)
    omega
  have HM : Shut (shaB s = digB (blocks (padL (bI s.data.toList)) H0 m)) := ⟨by unfold shaB shaL digB; rw [hm]⟩
  have HPL : Hid ((padL (bI s.data.toList)).length = 64 * m) := Lib.hid hPm
  rw [hPm] at hY ⊢
  obtain ⟨gq, rfl⟩ := hY.some_ (by simp only [u8C, List.length_map]; omega)
  have HY := Lib.hid hY
  have HS2 := Lib.hid (HS0.out.same hY.fr)
  have HF2 := Lib.hid (HF1.out.trans hY.fr)
  clear hm hPm hpm hpl hpl2 hY HS0 HF1 CE
  generalize padL (bI s.data.toList) = PL at *
  have HSl : Hid (Sl W2 (.slice (some ⟨gq, 0, none⟩) (64 * m) cp) (64 * m) (u8C PL)) := Lib.hid (by
    have := HY.out.sl
    rw [show (u8C PL).length = 64 * m by rw [u8C, List.length_map]; exact HPL.out] at this
    exact this)
  clear HY
  have hcp : 64 * m ≤ cp ∧ cp ≤ 9223372036854775807 := HSl.out.caps2
  go_wp2_with fail
  go_loopw [3, 5] (fun v i wr => ∃ (k : Nat) (a : Option Addr) (c : Nat), k ≤ m ∧ v = .slice a 8 c ∧ i = .int .i64 (64 * (k : Int)) ∧ Hid (Fr [] W2 wr) ∧ Hid (Sl wr (.slice a 8 c) 8 (u32C (blocks PL H0 k).list))) (fun _ i _ => 64 * m - (RowKit.intOf i).toNat)
  case atStart => exact ⟨0, _, _, Nat.zero_le _, rfl, rfl, Lib.hid (Fr.refl _ _), HS2⟩
  case round =>
    obtain ⟨k, a, c, hk, rfl, rfl, HF, HV⟩ := hrel
    by_cases hlt : k < m
    · have hch : (chunkL PL k).length = 64 := by rw [chunkL, List.length_take, List.length_drop, HPL.out]; omega
      have HB : Hid (Calls Tryz.prog 55 #[.slice a 8 c, .slice (some ⟨gq, 64 * k, none⟩) 64 (cp - 64 * k)] wr fun e w' => ∃ ga cap, e = .returned (.slice ga 8 cap) ∧ RwY wr w' 106 (.slice ga 8 cap) (u32C (blocks PL H0 (k + 1)).list)) := Lib.hid (by
        refine block2_c a c (blocks PL H0 k) gq (64 * k) (cp - 64 * k) (chunkL PL k) wr HV.out ?_ hch
        refine ⟨_, _, rfl, by omega, by omega, fun _ => ⟨gq, 64 * k, rfl, fun j u hu => ?_⟩⟩
        have hj : j < 64 := by
          have := (List.getElem?_eq_some_iff.1 hu).1
          rw [List.length_map, hch] at this; exact this
        obtain ⟨b', off', he, hc⟩ := HSl.out.at_ (by omega)
        cases he
        refine HF.out.cel ?_ (by simp)
        rw [show 64 * k + j = 0 + (64 * k + j) by omega]
        refine hc (64 * k + j) u ?_
        rw [List.getElem?_map] at hu ⊢
        rwa [chunkL, List.getElem?_take_of_lt hj, List.getElem?_drop] at hu)
      clear hch
      go_wp2_with fail
      rw [show 64 * k + 64 - 64 * k = 64 by omega]
      refine HB.out.mono ?_
      rintro e W5 ⟨gb, capb, rfl, hY5⟩
      have HV5 : Hid (Sl W5 (.slice gb 8 capb) 8 (u32C (blocks PL H0 (k + 1)).list)) := Lib.hid hY5.sl
      have HF5 := Lib.hid (HF.out.trans hY5.fr)
      clear hY5 HB HV HF
      go_wp2_with fail
      go_roundw
      case rel => exact ⟨k + 1, gb, capb, by omega, rfl, congrArg (Value.int .i64) (by omega), HF5, HV5⟩
      case measure => simp [RowKit.intOf]; omega
    · have hkm : m ≤ k := by omega
      have HMk : Shut (shaB s = digB (blocks PL H0 k)) := ⟨by rw [HM.out, show k = m by omega]⟩
      generalize blocks PL H0 k = V at *
      generalize k = kr at *
      obtain ⟨bv, ov, rfl, hcv⟩ := HV.out.at_ (by omega)
      have HQ : Hid (∀ j, j < 8 → wr.cell? ⟨bv, ov + j, none⟩ = some (.int .u32 (V.list.getD j 0))) := Lib.hid fun j hj => hcv j _ (by
        have hj2 : j < V.list.length := by rw [W8.list_len]; exact hj
        simp [u32C, hj2])
      have hbl : bv < wr.heap.size := cell_ltB (HQ.out 0 (by omega))
      have HFw := Lib.hid (HF2.out.trans HF.out)
      clear hcv HV HF HSl HS2 HM HPL
      generalize wr = W6 at *
      go_wp2_with fail
      go_loopw [6, 7] (fun v i wr => ∃ (k n : Nat) (ga : Option Addr) (cap : Nat), k ≤ 8 ∧ n = 4 * k ∧ v = .slice ga n cap ∧ i = .int .i64 k ∧ Hid (wr.ownsRow 0 5 1 (.slice ga n cap) n (u8C ((V.list.take k).flatMap outB)) ∧ (∀ g, (Value.slice ga n cap).ownBlock = some g → W6.heap.size ≤ g) ∧ Fr [] W6 wr)) (fun _ i _ => 8 - (RowKit.intOf i).toNat)
      case atStart => exact ⟨0, 0, none, 0, Nat.zero_le _, rfl, rfl, rfl, Lib.hid ⟨World.ownsRow_nil _ _ _ _, (fun g hg => by cases hg), Fr.refl _ _⟩⟩
      case round =>
        obtain ⟨k, n, ga, cap, hk, hn, rfl, rfl, HO⟩ := hrel
        have HN := Lib.hid hn
        have hn32 : n ≤ 32 := by omega
        clear hn
        by_cases hlt : k < 8
        · have e0 : wr.cell? ⟨bv, ov + k, none⟩ = some (.int .u32 (V.list.getD k 0)) := HO.out.2.2.cel (HQ.out k hlt) (by simp)
          have HT : Hid ((V.list.take (k + 1)).flatMap outB = (V.list.take k).flatMap outB ++ [IntKind.u8.wrap (V.list.getD k 0 / 16777216), IntKind.u8.wrap (V.list.getD k 0 / 65536), IntKind.u8.wrap (V.list.getD k 0 / 256), IntKind.u8.wrap (V.list.getD k 0)]) := Lib.hid (by rw [outL_take V hlt, outB_eq])
          have hbv : bv ∉ (Value.slice ga n cap).ownBlock.toList := fun hm => by
            have := HO.out.2.1 bv (by simpa using hm)
            omega
          generalize V.list.getD k 0 = x at *
          go_wp2_with fail
          refine reg_tree (Fr (Value.slice ga n cap).ownBlock.toList wr) 26 (.take 0 (.take 1 (.take 2 (.take 3 (.take 4 (.take 5 (.take 6 (.take 7 (.take 8 (.take 9 (.take 10 (.take 11 (.take 12 (.take 13 (.take 14 (.take 15 (.take 16 (.take 17 (.take 18 (.take 19 (.take 20 (.take 21 (.take 22 (.take 23 (.one 24 (.one 25 (.one 26 .nil))))))))))))))))))))))))))) (by kernel_rfl) (by kernel_rfl) (by kernel_rfl) rfl ?_
          have F0 : Fr [] wr wr.drew := Fr.drew _ _
          generalize wr.drew = WC at F0 ⊢
          have S0 : (Fr (Value.slice ga n cap).ownBlock.toList wr) WC := F0.mono (by simp)
          (refine tree_take (v := ?_) rfl rfl rfl S0 (fun w hS => ?_) ?_; rotate_left; (focus (clear hS; go_simp; rfl)); simp only [List.setIfInBounds_toArray, List.set_cons_succ, List.set_cons_zero])
          (refine tree_take (v := ?_) rfl rfl rfl S0 (fun w hS => ?_) ?_; rotate_left; (focus (clear hS; go_simp; rfl)); simp only [List.setIfInBounds_toArray, List.set_cons_succ, List.set_cons_zero])
          (refine tree_take (v := ?_) rfl rfl rfl S0 (fun w hS => ?_) ?_; rotate_left; (focus (clear hS; go_simp; rfl)); simp only [List.setIfInBounds_toArray, List.set_cons_succ, List.set_cons_zero])
          (refine tree_take (v := ?_) rfl rfl rfl S0 (fun w hS => ?_) ?_; rotate_left; (focus (clear hS; go_simp; first | rfl | (refine idx_ok (k := k) ?_ ?_ <;> omega))); simp only [List.setIfInBounds_toArray, List.set_cons_succ, List.set_cons_zero])
          (refine tree_take (v := ?_) rfl rfl rfl S0 (fun w hS => ?_) ?_; rotate_left; (focus (have d' := hS.cel e0 hbv; clear hS; go_simp; rfl)); simp only [List.setIfInBounds_toArray, List.set_cons_succ, List.set_cons_zero])
          (refine tree_take (v := ?_) rfl rfl rfl S0 (fun w hS => ?_) ?_; rotate_left; (focus (clear hS; go_simp; rfl)); simp only [List.setIfInBounds_toArray, List.set_cons_succ, List.set_cons_zero])
          (refine tree_take (v := ?_) rfl rfl rfl S0 (fun w hS => ?_) ?_; rotate_left; (focus (clear hS; go_simp; rfl)); simp only [List.setIfInBounds_toArray, List.set_cons_succ, List.set_cons_zero])
          (refine tree_take (v := ?_) rfl rfl rfl S0 (fun w hS => ?_) ?_; rotate_left; (focus (clear hS; go_simp; rfl)); simp only [List.setIfInBounds_toArray, List.set_cons_succ, List.set_cons_zero])
          (refine tree_take (v := ?_) rfl rfl rfl S0 (fun w hS => ?_) ?_; rotate_left; (focus (clear hS; go_simp; rfl)); simp only [List.setIfInBounds_toArray, List.set_cons_succ, List.set_cons_zero])
          (refine tree_take (v := ?_) rfl rfl rfl S0 (fun w hS => ?_) ?_; rotate_left; (focus (clear hS; go_simp; first | rfl | (refine idx_ok (k := k) ?_ ?_ <;> omega))); simp only [List.setIfInBounds_toArray, List.set_cons_succ, List.set_cons_zero])
          (refine tree_take (v := ?_) rfl rfl rfl S0 (fun w hS => ?_) ?_; rotate_left; (focus (have d' := hS.cel e0 hbv; clear hS; go_simp; rfl)); simp only [List.setIfInBounds_toArray, List.set_cons_succ, List.set_cons_zero])
          (refine tree_take (v := ?_) rfl rfl rfl S0 (fun w hS => ?_) ?_; rotate_left; (focus (clear hS; go_simp; rfl)); simp only [List.setIfInBounds_toArray, List.set_cons_succ, List.set_cons_zero])
          (refine tree_take (v := ?_) rfl rfl rfl S0 (fun w hS => ?_) ?_; rotate_left; (focus (clear hS; go_simp; rfl)); simp only [List.setIfInBounds_toArray, List.set_cons_succ, List.set_cons_zero])
          (refine tree_take (v := ?_) rfl rfl rfl S0 (fun w hS => ?_) ?_; rotate_left; (focus (clear hS; go_simp; rfl)); simp only [List.setIfInBounds_toArray, List.set_cons_succ, List.set_cons_zero])
          (refine tree_take (v := ?_) rfl rfl rfl S0 (fun w hS => ?_) ?_; rotate_left; (focus (clear hS; go_simp; rfl)); simp only [List.setIfInBounds_toArray, List.set_cons_succ, List.set_cons_zero])
          (refine tree_take (v := ?_) rfl rfl rfl S0 (fun w hS => ?_) ?_; rotate_left; (focus (clear hS; go_simp; first | rfl | (refine idx_ok (k := k) ?_ ?_ <;> omega))); simp only [List.setIfInBounds_toArray, List.set_cons_succ, List.set_cons_zero])
          (refine tree_take (v := ?_) rfl rfl rfl S0 (fun w hS => ?_) ?_; rotate_left; (focus (have d' := hS.cel e0 hbv; clear hS; go_simp; rfl)); simp only [List.setIfInBounds_toArray, List.set_cons_succ, List.set_cons_zero])
          (refine tree_take (v := ?_) rfl rfl rfl S0 (fun w hS => ?_) ?_; rotate_left; (focus (clear hS; go_simp; rfl)); simp only [List.setIfInBounds_toArray, List.set_cons_succ, List.set_cons_zero])
          (refine tree_take (v := ?_) rfl rfl rfl S0 (fun w hS => ?_) ?_; rotate_left; (focus (clear hS; go_simp; rfl)); simp only [List.setIfInBounds_toArray, List.set_cons_succ, List.set_cons_zero])
          (refine tree_take (v := ?_) rfl rfl rfl S0 (fun w hS => ?_) ?_; rotate_left; (focus (clear hS; go_simp; rfl)); simp only [List.setIfInBounds_toArray, List.set_cons_succ, List.set_cons_zero])
          (refine tree_take (v := ?_) rfl rfl rfl S0 (fun w hS => ?_) ?_; rotate_left; (focus (clear hS; go_simp; rfl)); simp only [List.setIfInBounds_toArray, List.set_cons_succ, List.set_cons_zero])
          (refine tree_take (v := ?_) rfl rfl rfl S0 (fun w hS => ?_) ?_; rotate_left; (focus (clear hS; go_simp; first | rfl | (refine idx_ok (k := k) ?_ ?_ <;> omega))); simp only [List.setIfInBounds_toArray, List.set_cons_succ, List.set_cons_zero])
          (refine tree_take (v := ?_) rfl rfl rfl S0 (fun w hS => ?_) ?_; rotate_left; (focus (have d' := hS.cel e0 hbv; clear hS; go_simp; rfl)); simp only [List.setIfInBounds_toArray, List.set_cons_succ, List.set_cons_zero])
          (refine tree_take (v := ?_) rfl rfl rfl S0 (fun w hS => ?_) ?_; rotate_left; (focus (clear hS; go_simp; rfl)); simp only [List.setIfInBounds_toArray, List.set_cons_succ, List.set_cons_zero])
          refine tree_one rfl rfl (fun K hK => ?_)
          go_simp
          have fa := Fr.alloc [] WC (.cells #[.int .u8 (IntKind.u8.wrap (x / 16777216)), .int .u8 (IntKind.u8.wrap (x / 65536)), .int .u8 (IntKind.u8.wrap (x / 256)), .int .u8 (IntKind.u8.wrap x)] 5)
          have hN := heap_alloc_new WC (.cells #[.int .u8 (IntKind.u8.wrap (x / 16777216)), .int .u8 (IntKind.u8.wrap (x / 65536)), .int .u8 (IntKind.u8.wrap (x / 256)), .int .u8 (IntKind.u8.wrap x)] 5)
          have S1 := S0.trans (fa.mono (fp2 := (Value.slice ga n cap).ownBlock.toList) (by simp))
          refine hK _ _ S1 ?_
          replace F0 := F0.trans fa
          clear S0
          have S0 := S1
          clear S1
          generalize WC.alloc (.cells #[.int .u8 (IntKind.u8.wrap (x / 16777216)), .int .u8 (IntKind.u8.wrap (x / 65536)), .int .u8 (IntKind.u8.wrap (x / 256)), .int .u8 (IntKind.u8.wrap x)] 5) = WD at *
          clear hK K
          try simp only [Act.put, List.setIfInBounds_toArray, List.set_cons_succ, List.set_cons_zero]
          refine tree_one rfl rfl (fun K hK => ?_)
          refine wp_append_src (.tmp 28) (.tmp 52) 39 5 (.int .u8 0) 1 1 rfl Tryz.underlying39 infoBy rfl (by decide) (.slice ga n cap) n (u8C ((V.list.take k).flatMap outB)) rfl (row_fr HO.out.1 F0 (by simp)) (.slice (some ⟨WC.heap.size, 0, none⟩) 4 4) 4 [.int .u8 (IntKind.u8.wrap (x / 16777216)), .int .u8 (IntKind.u8.wrap (x / 65536)), .int .u8 (IntKind.u8.wrap (x / 256)), .int .u8 (IntKind.u8.wrap x)] rfl ((sl_valsR hN (by omega)).srcR (by omega)) rfl (by simp [Value.oneCell']) (by omega) (by omega) ?_
          intro gb capb W9 r9 f9 o9
          refine hK _ _ (S0.trans f9) ?_
          clear hK K
          try simp only [Act.put, List.setIfInBounds_toArray]
          refine tree_last rfl rfl (fun K hK => ?_)
          go_simp
          try go_upon
          try go_simp
          refine hK _ _ ?_
          clear hK K
          refine noPanicN ?_
          have H9 : Hid (W9.ownsRow 0 5 1 (.slice gb (n + 4) capb) (n + 4) (u8C ((V.list.take (k + 1)).flatMap outB)) ∧ (∀ g, (Value.slice gb (n + 4) capb).ownBlock = some g → W6.heap.size ≤ g) ∧ Fr [] W6 W9) := Lib.hid ⟨by rw [HT.out, u8C, List.map_append]; exact r9, fun g hg => by
            rcases o9 with h4 | h4
            · exact HO.out.2.1 g (h4 ▸ hg)
            · rw [hg] at h4
              have := (HO.out.2.2.trans F0).size
              simp at h4; omega, (HO.out.2.2.trans F0).step f9 (fun i hi => .inr (HO.out.2.1 i (by simpa using hi)))⟩
          clear r9 f9 o9 hN fa S0 F0 e0 HO HT hbv
          go_wp2_with fail
          go_roundw
          case rel => exact ⟨k + 1, n + 4, gb, capb, by omega, by have := HN.out; omega, rfl, by go_num, H9⟩
          case measure => simp [RowKit.intOf]; omega
        · have e8 : V.list.take k = V.list := List.take_of_length_le (by rw [W8.list_len]; omega)
          have hn8 : n = 32 := by have := HN.out; omega
          have sl9 := sl_of_row HO.out.1
          rw [e8] at sl9
          have ho : (V.list.flatMap outB) = outL V := rfl
          rw [ho, u8C_bytes (outL_b V)] at sl9
          have HD : Shut (shaB s = ⟨((outL V).map toB).toArray⟩) := ⟨by rw [HMk.out]; rfl⟩
          have HF9 := Lib.hid (HFw.out.trans HO.out.2.2)
          have hzl : ((outL V).map toB).length = n := by rw [List.length_map, outL_len, hn8]
          clear e8 ho HO HN HQ
          generalize (outL V).map toB = zs at *
          go_wp2_with (first | ((with_reducible refine wpList_of_wp (o := ⟨some 55, _, _, _, _, _⟩) rfl (fun K hK => ?_)); apply stopD; case _other => exact trivial))
          (refine stopD ?_ ?_; rotate_left; exact trivial)
          refine wp_sl_str (.tmp 54) rfl ga n cap zs rfl sl9 (by omega) hzl ?_
          refine hK _ _ ?_
          clear hK K sl9 hzl
          generalize (⟨zs.toArray⟩ : ByteArray) = S at *
          go_wp2_with fail
          go_ret
          exact ⟨by rw [HD.out]; rfl, HF9.out⟩

theorem cat_two (h r : ByteArray) : (⟨#[2]⟩ : ByteArray) ++ h ++ r = str (2 :: (bts h ++ bts r)) := by
  apply ByteArray.ext; simp [str, bts]
set_option maxRecDepth 100000 in
theorem chain2_c (h r : ByteArray) (hh : h.size ≤ 100000000) (hr : r.size ≤ 100000000) (w : World) : Calls Tryz.prog 53 #[.string h, .string r] w fun e w' => e = .returned (.string (chainM h r)) ∧ Fr [] w w' := by
  have CS := Lib.hid (sum2_c (str (2 :: (bts h ++ bts r))) (by rw [str_size, List.length_cons, List.length_append, bts_len, bts_len]; omega) w)
  have HC : Shut ((⟨#[2]⟩ : ByteArray) ++ h ++ r = str (2 :: (bts h ++ bts r))) := ⟨cat_two h r⟩
  have HM : Shut (shaB (str (2 :: (bts h ++ bts r))) = chainM h r) := ⟨rfl⟩
  generalize str (2 :: (bts h ++ bts r)) = S at *
  go_enter Tryz.func53, Tryz.ntmps53
  go_wp2_with fail
  rw [HC.out]
  refine CS.out.mono ?_
  rintro e w1 ⟨rfl, f1⟩
  have HF := Lib.hid f1
  clear f1 CS
  go_wp2_with fail
  go_ret
  exact ⟨by rw [← HM.out]; rfl, HF.out⟩
theorem headOf_size2 (l : List ByteArray) : ∀ h : ByteArray, h.size = 32 → (headOf h l).size = 32 := by
  induction l with
  | nil => intro h hh; exact hh
  | cons r l ih => intro h hh; exact ih _ (chainM_size h r)
theorem headOf_snoc (h : ByteArray) (l : List ByteArray) (r : ByteArray) : headOf h (l ++ [r]) = chainM (headOf h l) r := by simp [headOf]
set_option maxRecDepth 100000 in
set_option maxHeartbeats 1000000 in
theorem head2_c (a : Option Addr) (cap : Nat) (l : List ByteArray) (w : World) (hs : Sl w (.slice a l.length cap) l.length (l.map Value.string)) (hz : ∀ r, r ∈ l → r.size ≤ 65536) : Calls Tryz.prog 39 #[.slice a l.length cap] w fun e w' => e = .returned (.string (headOf head0 l)) ∧ Fr [] w w' := by
  have hlen := hs.len
  have HS := Lib.hid hs; have HZ := Lib.hid hz
  have hmk : ∀ w : World, (Instr.makeSlice 39 (.int .i64 32) (.int .i64 32)).run Tryz.prog w = .ok (.slice (some ⟨w.heap.size, 0, none⟩) 32 32) (w.alloc (.cells (madeCells #[Value.int .u8 0] 32) 5)) := fun w => run_make_row' (P := Tryz.prog) 39 5 (.int .u8 0) 1 Tryz.underlying39 infoBy rfl .i64 .i64 32 (by omega) (by omega) w
  obtain ⟨zs, hzs, hzl⟩ : ∃ zs : List UInt8, zs = List.replicate 32 0 ∧ zs.length = 32 := ⟨_, rfl, rfl⟩
  rw [made_bytes, ← hzs] at hmk
  have hzh : (⟨zs.toArray⟩ : ByteArray) = head0 := by rw [hzs]; rfl
  clear hzs hs hz
  go_enter Tryz.func39, Tryz.ntmps39
  go_wp2_with (first | ((with_reducible refine wpList_of_wp (o := ⟨some 6, _, _, _, _, _⟩) rfl (fun K hK => ?_)); apply stopD; case _other => exact trivial))
  (refine stopD ?_ ?_; rotate_left; exact trivial)
  have s1 := sl_bytes (ty := 5) (heap_alloc_new w (.cells (byteCells zs).toArray 5)) hzl (by omega)
  refine wp_sl_str (.tmp 5) rfl _ 32 32 zs rfl s1 (by omega) hzl ?_
  refine hK _ _ ?_
  clear hK K s1 hmk
  rw [hzh]
  have HF1 := Lib.hid (Fr.alloc [] w (.cells (byteCells zs).toArray 5))
  generalize w.alloc (.cells (byteCells zs).toArray 5) = W1 at *
  clear hzh hzl
  go_wp2_with fail
  go_loopw [3, 4] (fun h i wr => ∃ (k : Nat), i = .int .i64 k ∧ k ≤ l.length ∧ h = .string (headOf head0 (l.take k)) ∧ Hid (Fr [] w wr)) (fun _ i _ => l.length - (RowKit.intOf i).toNat)
  case atStart => exact ⟨0, rfl, Nat.zero_le _, rfl, HF1⟩
  case round =>
    obtain ⟨k, rfl, hk, rfl, HF⟩ := hrel
    by_cases hlt : k < l.length
    · obtain ⟨b, off, rfl, hc⟩ := (HS.out.same HF.out).at_ (by omega)
      have ck : wr.cell? ⟨b, off + k, none⟩ = some (.string l[k]) := hc k _ (by simp [hlt])
      have hz := HZ.out _ (List.getElem_mem hlt)
      have CC := Lib.hid (chain2_c (headOf head0 (l.take k)) l[k] (by rw [headOf_size2 _ _ rfl]; omega) (by omega) wr)
      have HT : Shut (headOf head0 (l.take (k + 1)) = chainM (headOf head0 (l.take k)) l[k]) := ⟨by rw [List.take_succ_eq_append_getElem hlt, headOf_snoc]⟩
      clear hc
      generalize l[k] = r at *
      generalize headOf head0 (l.take k) = h at *
      generalize chainM h r = h2 at *
      go_wp2_with fail
      refine CC.out.mono ?_
      rintro e w1 ⟨rfl, f1⟩
      have HF2 := Lib.hid (HF.out.trans f1)
      clear f1 CC ck HF
      go_wp2_with fail
      go_roundw
      case rel => exact ⟨k + 1, by go_num, hlt, by rw [HT.out], HF2⟩
      case measure => simp [RowKit.intOf]; omega
    · have HE : Shut (headOf head0 (l.take k) = headOf head0 l) := ⟨by rw [List.take_of_length_le (by omega)]⟩
      generalize headOf head0 (l.take k) = h at *
      go_wp2_with fail
      go_ret
      exact ⟨by rw [← HE.out]; rfl, HF.out⟩

end Go.Proofs.YtbogljpafpkikaaGreatDoor
