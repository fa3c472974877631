/-
  digest: the bytes of the words.
-/
import Derived.Test.YtbogljpafpkikaaGreatDoorQDg3
namespace Go.Proofs.YtbogljpafpkikaaGreatDoor
open Go.RowKit Go.Lib

def digB (v : W8) : ByteArray := ⟨((outL v).map toB).toArray⟩
theorem u8A_out (v : W8) : u8A (outL v) = (byteCells ((outL v).map toB)).toArray := by rw [u8A, u8C_bytes (outL_b v)]
theorem outL_max (v : W8) : (outL v).length = 32 := outL_len v

set_option maxRecDepth 100000 in
set_option maxHeartbeats 4000000 in
theorem digest_c (v : W8) (w : World) : Calls Tryz.prog 117 #[.agg (w8C v)] w fun e w' => e = .returned (.string (digB v)) ∧ Fr [] w w' := by
  rw [w8C_lit]
  go_enter Tryz.func117, Tryz.ntmps117
  go_upto_region 1 with fail
  change Code.wp _ _ _ _ (w.alloc (.cells (w8C v) 182))
  have hA := heap_alloc_new w (.cells (w8C v) 182)
  have FA := Lib.hid (Fr.alloc [] w (.cells (w8C v) 182))
  generalize w.alloc (.cells (w8C v) 182) = W1 at *
  obtain ⟨B1, hB⟩ : ∃ B, B = w.heap.size := ⟨_, rfl⟩
  rw [← hB] at hA ⊢
  have HA := Lib.hid hA
  clear hA hB
  go_upto_region 2 with fail
  change Code.wp _ _ _ _ (W1.alloc (.cells (u8A (List.replicate 32 0)) 210))
  have hA3 := heap_alloc_new W1 (.cells (u8A (List.replicate 32 0)) 210)
  have F2 := Lib.hid (FA.out.trans (Fr.alloc [] W1 (.cells (u8A (List.replicate 32 0)) 210)))
  have hA1 := (Fr.alloc [] W1 (.cells (u8A (List.replicate 32 0)) 210)).keep HA.out (by simp)
  generalize W1.alloc (.cells (u8A (List.replicate 32 0)) 210) = W2 at *
  obtain ⟨B3, hB⟩ : ∃ B, B = W1.heap.size := ⟨_, rfl⟩
  have HB3 : Hid (w.heap.size ≤ B3) := Lib.hid (by rw [hB]; exact FA.out.size)
  rw [← hB] at hA3 ⊢
  have HA3 := Lib.hid hA3
  clear hA3 hB FA HA
  have d0 : W2.cell? ⟨B1, 0, none⟩ = some (.int .u32 v.a) := cell_of_blk hA1 0
  have d1 : W2.cell? ⟨B1, 1, none⟩ = some (.int .u32 v.b) := cell_of_blk hA1 1
  have d2 : W2.cell? ⟨B1, 2, none⟩ = some (.int .u32 v.c) := cell_of_blk hA1 2
  have d3 : W2.cell? ⟨B1, 3, none⟩ = some (.int .u32 v.d) := cell_of_blk hA1 3
  have d4 : W2.cell? ⟨B1, 4, none⟩ = some (.int .u32 v.e) := cell_of_blk hA1 4
  have d5 : W2.cell? ⟨B1, 5, none⟩ = some (.int .u32 v.f) := cell_of_blk hA1 5
  have d6 : W2.cell? ⟨B1, 6, none⟩ = some (.int .u32 v.g) := cell_of_blk hA1 6
  have d7 : W2.cell? ⟨B1, 7, none⟩ = some (.int .u32 v.h) := cell_of_blk hA1 7
  clear hA1
  go_wp2_with fail
  -- @@1
  clear d0 d1 d2 d3 d4 d5 d6 d7
  go_loopw [8] (fun i wr => ∃ k : Nat, k ≤ 8 ∧ i = .int .i64 k ∧ Hid (Fr [] w wr) ∧ Hid (wr.heap[B3]? = some (.cells (u8A ((outL v).take (4 * k) ++ List.replicate (32 - 4 * k) 0)) 210 (0, 0)))) (fun i _ => 8 - (RowKit.intOf i).toNat)
  case atStart => exact ⟨0, by omega, rfl, F2, HA3⟩
  case round =>
    obtain ⟨k, hk, rfl, H1, H3⟩ := hrel
    by_cases hlt : k < 8
    · have i0 : ∀ W : World, (Instr.index 182 (.agg #[.int .u32 v.a, .int .u32 v.b, .int .u32 v.c, .int .u32 v.d, .int .u32 v.e, .int .u32 v.f, .int .u32 v.g, .int .u32 v.h]) (.int .i64 k)).run Tryz.prog W = .ok (.int .u32 (v.list.getD k 0)) W := fun W => arr_index (l := v.list) Tryz.underlying182 rfl hlt
      have HO : Shut (∀ j, j < 4 → (outL v).getD (4 * k + j) 0 = byteI (v.list.getD k 0 / 2 ^ (24 - 8 * j))) := ⟨fun j hj => outL_get v k j hlt hj⟩
      generalize v.list.getD k 0 = x at *
      go_wp2_with fail
      -- @@2
      clear i0
      go_loopw [12] (fun i wq => ∃ j : Nat, j ≤ 4 ∧ i = .int .i64 j ∧ Hid (Fr [] w wq) ∧ Hid (wq.heap[B3]? = some (.cells (u8A ((outL v).take (4 * k + j) ++ List.replicate (32 - (4 * k + j)) 0)) 210 (0, 0)))) (fun i _ => 4 - (RowKit.intOf i).toNat)
      case atStart => exact ⟨0, by omega, rfl, H1, H3⟩
      case round =>
        obtain ⟨j, hj, rfl, G1, G3⟩ := hrel
        by_cases hj4 : j < 4
        · have HT : Shut (((outL v).take (4 * k + j) ++ List.replicate (32 - (4 * k + j)) 0).set (4 * k + j) (byteI (x / 2 ^ (24 - 8 * j))) = (outL v).take (4 * k + j + 1) ++ List.replicate (32 - (4 * k + j + 1)) 0) := ⟨outL_step v (4 * k + j) _ (by omega) (HO.out j hj4)⟩
          have t0 : wr.cell? ⟨B3, 4 * k + j, none⟩ = some (.int .u8 (((outL v).take (4 * k + j) ++ List.replicate (32 - (4 * k + j)) 0).getD (4 * k + j) 0)) := by
            rw [cell_of_blk G3.out, u8A_get _ _ (by rw [List.length_append, List.length_take, List.length_replicate, outL_len]; omega)]
          have t1 := free_of_blk G3.out (4 * k + j)
          generalize ((outL v).take (4 * k + j) ++ List.replicate (32 - (4 * k + j)) 0).getD (4 * k + j) 0 = y at t0
          have HX : Shut (∀ z : Int, z = byteI (x / 2 ^ (24 - 8 * j)) → (wr.setCell ⟨B3, 4 * k + j, none⟩ (.int .u8 z)).heap[B3]? = some (.cells (u8A ((outL v).take (4 * k + (j + 1)) ++ List.replicate (32 - (4 * k + (j + 1))) 0)) 210 (0, 0))) := ⟨fun z hz => by
            rw [heap_setCell_same _ G3.out, u8A_set, hz, HT.out]; rfl⟩
          have HF : Shut (∀ z : Value, Fr [] w (wr.setCell ⟨B3, 4 * k + j, none⟩ z)) := ⟨fun z => G1.out.step (Fr.setCell (fp := [B3]) wr (p := ⟨B3, 4 * k + j, none⟩) z (by simp)) (fun i hi => .inr (by rw [List.mem_singleton] at hi; have := HB3.out; omega))⟩
          have hz : (4 * (k : Int) + (j : Int)).toNat = 4 * k + j := by omega
          have hm : min (24 - 8 * (j : Int)).toNat 32 = 24 - 8 * j := by omega
          go_wp2_with fail
          -- @@3
          go_roundw
          case rel => exact ⟨j + 1, by omega, by go_num, Lib.hid (HF.out _), Lib.hid (HX.out _ (by rw [byteI, IntKind.wrap_u8]))⟩
          case measure => simp [RowKit.intOf]; omega
        · have HJ : Shut (j = 4) := ⟨by omega⟩
          go_wp2_with fail
          go_roundw
          case rel => exact ⟨k + 1, by omega, by go_num, G1, by rw [show 4 * (k + 1) = 4 * k + j by have := HJ.out; omega]; exact G3⟩
          case measure => simp [RowKit.intOf]; omega
    · have h9 : wr.heap[B3]? = some (.cells (u8A (outL v)) 210 (0, 0)) := by
        have e : k = 8 := by omega
        rw [H3.out, e, List.take_of_length_le (by rw [outL_len]; omega)]; simp
      rw [u8A_out] at h9
      have hb : BytesAt wr B3 210 ((outL v).map toB) := h9
      have HB := Lib.hid hb
      clear h9 hb
      go_wp2_with (first | ((with_reducible refine wpList_of_wp (o := ⟨some 29, _, _, _, _, _⟩) rfl (fun K hK => ?_)); apply stopD; case _other => exact trivial))
      (refine stopD ?_ ?_; rotate_left; exact trivial)
      refine wp_bytes_str (.tmp 28) 39 9 5 rfl Tryz.underlying39 Tryz.underlying5 Tryz.underlying9 B3 0 32 32 _ 210 rfl HB.out (by rw [List.length_map, outL_len]; omega) ?_
      refine hK _ _ ?_
      clear hK K
      go_wp2_with fail
      go_ret
      refine ⟨?_, H1.out⟩
      show Ending.returned (.string ⟨(((outL v).map toB).take 32).toArray⟩) = _
      rw [List.take_of_length_le (by rw [List.length_map, outL_len]; omega)]
      rfl

end Go.Proofs.YtbogljpafpkikaaGreatDoor
