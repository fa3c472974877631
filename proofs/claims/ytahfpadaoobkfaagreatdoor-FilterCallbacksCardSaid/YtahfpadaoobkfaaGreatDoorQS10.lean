/-
  The reference's digest: a block.
-/
import Derived.Test.YtahfpadaoobkfaaGreatDoorQS09
namespace Go.Proofs.YtahfpadaoobkfaaGreatDoor
open Go.RowKit Go.Lib

theorem cell_ltB {w : World} {b i : Nat} {v : Value} (h : w.cell? ⟨b, i, none⟩ = some v) : b < w.heap.size := by
  rcases Nat.lt_or_ge b w.heap.size with h' | h'
  · exact h'
  · simp [World.cell?, Array.getElem?_eq_none h'] at h
theorem ror_range (x : Int) (n : Nat) : 0 ≤ ror x n ∧ ror x n < 4294967296 := by
  simp only [ror, bits, IntKind.wrap_u32]
  omega
theorem xorI_zero {x : Int} (h : 0 ≤ x ∧ x < 4294967296) : xorI 0 x = x := by
  simp only [xorI, bits, IntKind.wrap_u32]
  have e : (BitVec.ofInt IntKind.u32.bits 0 ^^^ BitVec.ofInt IntKind.u32.bits x) = BitVec.ofInt IntKind.u32.bits x := by
    rw [show BitVec.ofInt IntKind.u32.bits 0 = 0#IntKind.u32.bits from rfl, BitVec.zero_xor]
  rw [e, BitVec.toNat_ofInt]
  show (((x % ((2 ^ 32 : Nat) : Int)).toNat : Int)) % 4294967296 = x
  omega
theorem mix2 (x : Int) (a b : Int) : mix x [a, b] = xorI (ror x a.toNat) (ror x b.toNat) := by
  simp only [mix, mixGo]
  rw [xorI_zero (ror_range _ _)]
theorem mix3 (x : Int) (a b c : Int) : mix x [a, b, c] = xorI (xorI (ror x a.toNat) (ror x b.toNat)) (ror x c.toNat) := by
  simp only [mix, mixGo]
  rw [xorI_zero (ror_range _ _)]
theorem mix2_eq (y d : Int) (a b : Nat) (_ha : a < 32) (_hb : b < 32) : bits .xor .u32 (bits .xor .u32 (ror y a) (ror y b)) (y / d) = xorI (mix y [(a : Int), (b : Int)]) (y / d) := by
  rw [mix2]; rfl
theorem tOf_eq (v : W8) (k w : Int) : IntKind.u32.wrap (IntKind.u32.wrap (IntKind.u32.wrap (IntKind.u32.wrap (v.h + bits .xor .u32 (bits .xor .u32 (ror v.e 6) (ror v.e 11)) (ror v.e 25)) + bits .xor .u32 (bits .and .u32 v.e v.f) (bits .and .u32 (bits .xor .u32 IntKind.u32.max v.e) v.g)) + k) + w) = tOf v k w := by
  rw [tOf, mix3]
  rfl
theorem uOf_eq (v : W8) : IntKind.u32.wrap (bits .xor .u32 (bits .xor .u32 (ror v.a 2) (ror v.a 13)) (ror v.a 22) + bits .xor .u32 (bits .xor .u32 (bits .and .u32 v.a v.b) (bits .and .u32 v.a v.c)) (bits .and .u32 v.b v.c)) = uOf v := by
  rw [uOf, mix3]
  rfl
theorem rnd_list (v : W8) (k w T U : Int) (hT : tOf v k w = T) (hU : uOf v = U) : (rnd v k w).list = [IntKind.u32.wrap (T + U), v.a, v.b, v.c, IntKind.u32.wrap (v.d + T), v.e, v.f, v.g] := by
  simp only [rnd, W8.list, hT, hU, addI]
theorem sum8_take (h v : W8) {k : Nat} (hk : k < 8) : (sum8 h v).list.take (k + 1) = (sum8 h v).list.take k ++ [IntKind.u32.wrap (h.list.getD k 0 + v.list.getD k 0)] := by
  have hc : k = 0 ∨ k = 1 ∨ k = 2 ∨ k = 3 ∨ k = 4 ∨ k = 5 ∨ k = 6 ∨ k = 7 := by omega
  simp only [sum8, W8.list, addI]
  rcases hc with rfl | rfl | rfl | rfl | rfl | rfl | rfl | rfl <;> rfl
theorem RwY.get {w0 W : World} {g n c : Nat} {l : List Int} (h : RwY w0 W 225 (.slice (some ⟨g, 0, none⟩) n c) (u32C l)) {j : Nat} (hj : j < l.length) : W.cell? ⟨g, j, none⟩ = some (.int .u32 (l.getD j 0)) := by
  obtain ⟨a, cc, hv⟩ := h.val
  cases hv
  obtain ⟨b, off, he, hc⟩ := h.sl.at_ (by simpa using (by omega : 0 < l.length))
  cases he
  have := hc j (.int .u32 (l.getD j 0)) (by simp [hj])
  rwa [Nat.zero_add] at this
theorem RwY.some_ {w0 W : World} {e : TypeId} {a : Option Addr} {n c : Nat} {cs : List Value} (h : RwY w0 W e (.slice a n c) cs) (h0 : 0 < cs.length) : ∃ g, a = some ⟨g, 0, none⟩ := by
  rcases h.row.2 with ⟨_, h1⟩ | ⟨g, cap, cur, hv, _⟩
  · omega
  · cases hv
    exact ⟨g, rfl⟩
theorem Sl.src {w : World} {b off n c : Nat} {cs : List Value} (h : Sl w (.slice (some ⟨b, off, none⟩) n c) n cs) (hn : 0 < n) : SrcAt w (.slice (some ⟨b, off, none⟩) n c) n cs :=
  ⟨.inr ⟨_, c, rfl, fun j u hu => by
    obtain ⟨b', off', he, hc⟩ := h.at_ hn
    cases he
    have e : (⟨b, off, none⟩ : Addr).add j = ⟨b, off + j, none⟩ := by
      unfold Addr.add
      split
      · rename_i h; subst h; rfl
      · rfl
    rw [e]
    exact hc j u hu⟩⟩

set_option maxRecDepth 1000000 in
set_option maxHeartbeats 8000000 in
theorem block2_c (ah : Option Addr) (hc : Nat) (h : W8) (b off cb : Nat) (l : List Int) (w : World) (hh : Sl w (.slice ah 8 hc) 8 (u32C h.list)) (hb : Sl w (.slice (some ⟨b, off, none⟩) 64 cb) 64 (u8C l)) (hl : l.length = 64) :
    Calls Tryz.prog 130 #[.slice ah 8 hc, .slice (some ⟨b, off, none⟩) 64 cb] w fun e w' => ∃ ga cap, e = .returned (.slice ga 8 cap) ∧ RwY w w' 225 (.slice ga 8 cap) (u32C (addB h l).list) := by
  obtain ⟨bh, oh, rfl, hhc⟩ := hh.at_ (by omega)
  have hbl : b < w.heap.size := by
    obtain ⟨b', off', he, hcc⟩ := hb.at_ (by omega)
    cases he
    exact cell_ltB (hcc 0 _ (by simp [u8C, show 0 < l.length by omega]; rfl))
  have HHc : Hid (∀ j, j < 8 → w.cell? ⟨bh, oh + j, none⟩ = some (.int .u32 (h.list.getD j 0))) := Lib.hid fun j hj => hhc j _ (by
    have hj2 : j < h.list.length := by rw [W8.list_len]; exact hj
    simp [u32C, hj2])
  have HH := Lib.hid hh; have HB := Lib.hid hb; have HL := Lib.hid hl
  clear hh hb hl hhc
  go_enter Tryz.func130, Tryz.ntmps130
  go_wp2_with fail
  go_loopw [5, 6] (fun v i wr => ∃ (k : Nat) (ga : Option Addr) (cap : Nat), k ≤ 16 ∧ v = .slice ga k cap ∧ i = .int .i64 k ∧ Hid (RwY w wr 225 (.slice ga k cap) (u32C (sch l k)))) (fun _ i _ => 16 - (RowKit.intOf i).toNat)
  case atStart => exact ⟨0, none, 0, Nat.zero_le _, rfl, rfl, Lib.hid (RwY.nil _ _)⟩
  case round =>
    obtain ⟨k, ga, cap, hk, rfl, rfl, HV⟩ := hrel
    by_cases hlt : k < 16
    · skip
      have HK : Hid ((u32C (sch l k)).length = k) := Lib.hid (by simp [sch_len])
      have HS := Lib.hid (HB.out.same HV.out.fr)
      have c0 : wr.cell? ⟨b, off + 4 * k, none⟩ = some (.int .u8 (l.getD (4 * k) 0)) := by_cell (n := 64) (l := l) HS.out (by omega) (j := 4 * k) (by rw [HL.out]; omega)
      have c1 : wr.cell? ⟨b, off + (4 * k + 1), none⟩ = some (.int .u8 (l.getD (4 * k + 1) 0)) := by_cell (n := 64) (l := l) HS.out (by omega) (j := 4 * k + 1) (by rw [HL.out]; omega)
      have c2 : wr.cell? ⟨b, off + (4 * k + 2), none⟩ = some (.int .u8 (l.getD (4 * k + 2) 0)) := by_cell (n := 64) (l := l) HS.out (by omega) (j := 4 * k + 2) (by rw [HL.out]; omega)
      have c3 : wr.cell? ⟨b, off + (4 * k + 3), none⟩ = some (.int .u8 (l.getD (4 * k + 3) 0)) := by_cell (n := 64) (l := l) HS.out (by omega) (j := 4 * k + 3) (by rw [HL.out]; omega)
      have HT : Hid (sch l (k + 1) = sch l k ++ [word4 (l.getD (4 * k) 0) (l.getD (4 * k + 1) 0) (l.getD (4 * k + 2) 0) (l.getD (4 * k + 3) 0)]) := Lib.hid (by rw [sch, if_pos hlt])
      have hbv : b ∉ (Value.slice ga k cap).ownBlock.toList := fun hm => by
        have := HV.out.young b (by simpa using hm)
        omega
      clear HS
      generalize l.getD (4 * k) 0 = x0 at *
      generalize l.getD (4 * k + 1) 0 = x1 at *
      generalize l.getD (4 * k + 2) 0 = x2 at *
      generalize l.getD (4 * k + 3) 0 = x3 at *
      go_wp2_with fail
      refine reg_tree (Fr (Value.slice ga k cap).ownBlock.toList wr) 36 (.take 0 (.take 1 (.take 2 (.take 3 (.take 4 (.take 5 (.take 6 (.take 7 (.take 8 (.take 9 (.take 10 (.take 11 (.take 12 (.take 13 (.take 14 (.take 15 (.take 16 (.take 17 (.take 18 (.take 19 (.take 20 (.take 21 (.take 22 (.take 23 (.take 24 (.take 25 (.take 26 (.take 27 (.take 28 (.take 29 (.take 30 (.take 31 (.take 32 (.take 33 (.one 34 (.one 35 (.one 36 .nil))))))))))))))))))))))))))))))))))))) (by kernel_rfl) (by kernel_rfl) (by kernel_rfl) rfl ?_
      have F0 : Fr [] wr wr.drew := Fr.drew _ _
      generalize wr.drew = WC at F0 ⊢
      have S0 : (Fr (Value.slice ga k cap).ownBlock.toList wr) WC := F0.mono (by simp)
      (refine tree_take (v := ?_) rfl rfl rfl S0 (fun w hS => ?_) ?_; rotate_left; (focus (clear hS; go_simp; rfl)); simp only [List.setIfInBounds_toArray, List.set_cons_succ, List.set_cons_zero])
      (refine tree_take (v := ?_) rfl rfl rfl S0 (fun w hS => ?_) ?_; rotate_left; (focus (clear hS; go_simp; rfl)); simp only [List.setIfInBounds_toArray, List.set_cons_succ, List.set_cons_zero])
      (refine tree_take (v := ?_) rfl rfl rfl S0 (fun w hS => ?_) ?_; rotate_left; (focus (clear hS; go_simp; rfl)); simp only [List.setIfInBounds_toArray, List.set_cons_succ, List.set_cons_zero])
      (refine tree_take (v := ?_) rfl rfl rfl S0 (fun w hS => ?_) ?_; rotate_left; (focus (clear hS; go_simp; rw [IntWalk.i64_in (4 * (k : Int)) (by omega)])); simp only [List.setIfInBounds_toArray, List.set_cons_succ, List.set_cons_zero])
      (refine tree_take (v := ?_) rfl rfl rfl S0 (fun w hS => ?_) ?_; rotate_left; (focus (clear hS; go_simp; first | rfl | (refine idx_ok (k := 4 * k) ?_ ?_ <;> omega))); simp only [List.setIfInBounds_toArray, List.set_cons_succ, List.set_cons_zero])
      (refine tree_take (v := ?_) rfl rfl rfl S0 (fun w hS => ?_) ?_; rotate_left; (focus (have c0' := hS.cel c0 hbv; have c1' := hS.cel c1 hbv; have c2' := hS.cel c2 hbv; have c3' := hS.cel c3 hbv; clear hS; go_simp; rfl)); simp only [List.setIfInBounds_toArray, List.set_cons_succ, List.set_cons_zero])
      (refine tree_take (v := ?_) rfl rfl rfl S0 (fun w hS => ?_) ?_; rotate_left; (focus (clear hS; go_simp; rfl)); simp only [List.setIfInBounds_toArray, List.set_cons_succ, List.set_cons_zero])
      (refine tree_take (v := ?_) rfl rfl rfl S0 (fun w hS => ?_) ?_; rotate_left; (focus (clear hS; go_simp; rfl)); simp only [List.setIfInBounds_toArray, List.set_cons_succ, List.set_cons_zero])
      (refine tree_take (v := ?_) rfl rfl rfl S0 (fun w hS => ?_) ?_; rotate_left; (focus (clear hS; go_simp; rfl)); simp only [List.setIfInBounds_toArray, List.set_cons_succ, List.set_cons_zero])
      (refine tree_take (v := ?_) rfl rfl rfl S0 (fun w hS => ?_) ?_; rotate_left; (focus (clear hS; go_simp; rfl)); simp only [List.setIfInBounds_toArray, List.set_cons_succ, List.set_cons_zero])
      (refine tree_take (v := ?_) rfl rfl rfl S0 (fun w hS => ?_) ?_; rotate_left; (focus (clear hS; go_simp; rw [IntWalk.i64_in (4 * (k : Int)) (by omega)])); simp only [List.setIfInBounds_toArray, List.set_cons_succ, List.set_cons_zero])
      (refine tree_take (v := ?_) rfl rfl rfl S0 (fun w hS => ?_) ?_; rotate_left; (focus (clear hS; go_simp; rw [IntWalk.i64_in (4 * (k : Int) + 1) (by omega)])); simp only [List.setIfInBounds_toArray, List.set_cons_succ, List.set_cons_zero])
      (refine tree_take (v := ?_) rfl rfl rfl S0 (fun w hS => ?_) ?_; rotate_left; (focus (clear hS; go_simp; first | rfl | (refine idx_ok (k := 4 * k + 1) ?_ ?_ <;> omega))); simp only [List.setIfInBounds_toArray, List.set_cons_succ, List.set_cons_zero])
      (refine tree_take (v := ?_) rfl rfl rfl S0 (fun w hS => ?_) ?_; rotate_left; (focus (have c0' := hS.cel c0 hbv; have c1' := hS.cel c1 hbv; have c2' := hS.cel c2 hbv; have c3' := hS.cel c3 hbv; clear hS; go_simp; rfl)); simp only [List.setIfInBounds_toArray, List.set_cons_succ, List.set_cons_zero])
      (refine tree_take (v := ?_) rfl rfl rfl S0 (fun w hS => ?_) ?_; rotate_left; (focus (clear hS; go_simp; rfl)); simp only [List.setIfInBounds_toArray, List.set_cons_succ, List.set_cons_zero])
      (refine tree_take (v := ?_) rfl rfl rfl S0 (fun w hS => ?_) ?_; rotate_left; (focus (clear hS; go_simp; rfl)); simp only [List.setIfInBounds_toArray, List.set_cons_succ, List.set_cons_zero])
      (refine tree_take (v := ?_) rfl rfl rfl S0 (fun w hS => ?_) ?_; rotate_left; (focus (clear hS; go_simp; rfl)); simp only [List.setIfInBounds_toArray, List.set_cons_succ, List.set_cons_zero])
      (refine tree_take (v := ?_) rfl rfl rfl S0 (fun w hS => ?_) ?_; rotate_left; (focus (clear hS; go_simp; rfl)); simp only [List.setIfInBounds_toArray, List.set_cons_succ, List.set_cons_zero])
      (refine tree_take (v := ?_) rfl rfl rfl S0 (fun w hS => ?_) ?_; rotate_left; (focus (clear hS; go_simp; rfl)); simp only [List.setIfInBounds_toArray, List.set_cons_succ, List.set_cons_zero])
      (refine tree_take (v := ?_) rfl rfl rfl S0 (fun w hS => ?_) ?_; rotate_left; (focus (clear hS; go_simp; rw [IntWalk.i64_in (4 * (k : Int)) (by omega)])); simp only [List.setIfInBounds_toArray, List.set_cons_succ, List.set_cons_zero])
      (refine tree_take (v := ?_) rfl rfl rfl S0 (fun w hS => ?_) ?_; rotate_left; (focus (clear hS; go_simp; rw [IntWalk.i64_in (4 * (k : Int) + 2) (by omega)])); simp only [List.setIfInBounds_toArray, List.set_cons_succ, List.set_cons_zero])
      (refine tree_take (v := ?_) rfl rfl rfl S0 (fun w hS => ?_) ?_; rotate_left; (focus (clear hS; go_simp; first | rfl | (refine idx_ok (k := 4 * k + 2) ?_ ?_ <;> omega))); simp only [List.setIfInBounds_toArray, List.set_cons_succ, List.set_cons_zero])
      (refine tree_take (v := ?_) rfl rfl rfl S0 (fun w hS => ?_) ?_; rotate_left; (focus (have c0' := hS.cel c0 hbv; have c1' := hS.cel c1 hbv; have c2' := hS.cel c2 hbv; have c3' := hS.cel c3 hbv; clear hS; go_simp; rfl)); simp only [List.setIfInBounds_toArray, List.set_cons_succ, List.set_cons_zero])
      (refine tree_take (v := ?_) rfl rfl rfl S0 (fun w hS => ?_) ?_; rotate_left; (focus (clear hS; go_simp; rfl)); simp only [List.setIfInBounds_toArray, List.set_cons_succ, List.set_cons_zero])
      (refine tree_take (v := ?_) rfl rfl rfl S0 (fun w hS => ?_) ?_; rotate_left; (focus (clear hS; go_simp; rfl)); simp only [List.setIfInBounds_toArray, List.set_cons_succ, List.set_cons_zero])
      (refine tree_take (v := ?_) rfl rfl rfl S0 (fun w hS => ?_) ?_; rotate_left; (focus (clear hS; go_simp; rfl)); simp only [List.setIfInBounds_toArray, List.set_cons_succ, List.set_cons_zero])
      (refine tree_take (v := ?_) rfl rfl rfl S0 (fun w hS => ?_) ?_; rotate_left; (focus (clear hS; go_simp; rfl)); simp only [List.setIfInBounds_toArray, List.set_cons_succ, List.set_cons_zero])
      (refine tree_take (v := ?_) rfl rfl rfl S0 (fun w hS => ?_) ?_; rotate_left; (focus (clear hS; go_simp; rfl)); simp only [List.setIfInBounds_toArray, List.set_cons_succ, List.set_cons_zero])
      (refine tree_take (v := ?_) rfl rfl rfl S0 (fun w hS => ?_) ?_; rotate_left; (focus (clear hS; go_simp; rw [IntWalk.i64_in (4 * (k : Int)) (by omega)])); simp only [List.setIfInBounds_toArray, List.set_cons_succ, List.set_cons_zero])
      (refine tree_take (v := ?_) rfl rfl rfl S0 (fun w hS => ?_) ?_; rotate_left; (focus (clear hS; go_simp; rw [IntWalk.i64_in (4 * (k : Int) + 3) (by omega)])); simp only [List.setIfInBounds_toArray, List.set_cons_succ, List.set_cons_zero])
      (refine tree_take (v := ?_) rfl rfl rfl S0 (fun w hS => ?_) ?_; rotate_left; (focus (clear hS; go_simp; first | rfl | (refine idx_ok (k := 4 * k + 3) ?_ ?_ <;> omega))); simp only [List.setIfInBounds_toArray, List.set_cons_succ, List.set_cons_zero])
      (refine tree_take (v := ?_) rfl rfl rfl S0 (fun w hS => ?_) ?_; rotate_left; (focus (have c0' := hS.cel c0 hbv; have c1' := hS.cel c1 hbv; have c2' := hS.cel c2 hbv; have c3' := hS.cel c3 hbv; clear hS; go_simp; rfl)); simp only [List.setIfInBounds_toArray, List.set_cons_succ, List.set_cons_zero])
      (refine tree_take (v := ?_) rfl rfl rfl S0 (fun w hS => ?_) ?_; rotate_left; (focus (clear hS; go_simp; rfl)); simp only [List.setIfInBounds_toArray, List.set_cons_succ, List.set_cons_zero])
      (refine tree_take (v := ?_) rfl rfl rfl S0 (fun w hS => ?_) ?_; rotate_left; (focus (clear hS; go_simp; rfl)); simp only [List.setIfInBounds_toArray, List.set_cons_succ, List.set_cons_zero])
      refine tree_one rfl rfl (fun K hK => ?_)
      go_simp
      have fa := Fr.alloc [] WC (.cells #[.int .u32 (bits .or .u32 (bits .or .u32 (bits .or .u32 (IntKind.u32.wrap (IntKind.u32.wrap x0 * 16777216)) (IntKind.u32.wrap (IntKind.u32.wrap x1 * 65536))) (IntKind.u32.wrap (IntKind.u32.wrap x2 * 256))) (IntKind.u32.wrap x3))] 225)
      have hN := heap_alloc_new WC (.cells #[.int .u32 (bits .or .u32 (bits .or .u32 (bits .or .u32 (IntKind.u32.wrap (IntKind.u32.wrap x0 * 16777216)) (IntKind.u32.wrap (IntKind.u32.wrap x1 * 65536))) (IntKind.u32.wrap (IntKind.u32.wrap x2 * 256))) (IntKind.u32.wrap x3))] 225)
      have S1 := S0.trans (fa.mono (by simp))
      refine hK _ _ S1 ?_
      replace F0 := F0.trans fa
      clear S0
      have S0 := S1
      clear S1
      generalize WC.alloc (.cells #[.int .u32 (bits .or .u32 (bits .or .u32 (bits .or .u32 (IntKind.u32.wrap (IntKind.u32.wrap x0 * 16777216)) (IntKind.u32.wrap (IntKind.u32.wrap x1 * 65536))) (IntKind.u32.wrap (IntKind.u32.wrap x2 * 256))) (IntKind.u32.wrap x3))] 225) = WD at *
      clear hK K
      try simp only [Act.put, List.setIfInBounds_toArray, List.set_cons_succ, List.set_cons_zero]
      refine tree_one rfl rfl (fun K hK => ?_)
      refine wp_app1 (.tmp 23) (.tmp 57) 226 225 (.int .u32 0) 4 rfl Tryz.underlying226 infoU32 rfl (by omega) (.slice ga k cap) (u32C (sch l k)) rfl (HV.out.same F0) WC.heap.size 1 (.int .u32 (bits .or .u32 (bits .or .u32 (bits .or .u32 (IntKind.u32.wrap (IntKind.u32.wrap x0 * 16777216)) (IntKind.u32.wrap (IntKind.u32.wrap x1 * 65536))) (IntKind.u32.wrap (IntKind.u32.wrap x2 * 256))) (IntKind.u32.wrap x3))) rfl (cell_of_blk hN 0) rfl (by rw [HK.out]; omega) ?_
      intro gb capb W9 r9 f9
      refine hK _ _ (S0.trans f9) ?_
      rw [HK.out] at r9 ⊢
      clear f9 hN fa
      clear hK K
      try simp only [Act.put, List.setIfInBounds_toArray]
      refine tree_last rfl rfl (fun K hK => ?_)
      go_simp
      try go_upon
      try go_simp
      refine hK _ _ ?_
      clear hK K
      refine noPanicN ?_

      have H9 : Hid (RwY w W9 225 (.slice gb (k + 1) capb) (u32C (sch l (k + 1)))) := Lib.hid (by rw [HT.out, u32C, List.map_append]; exact r9)
      clear r9 S0 F0 c0 c1 c2 c3 HV HK HT hbv
      go_wp2_with fail
      go_roundw
      case rel => exact ⟨k + 1, gb, capb, by omega, rfl, by go_num, H9⟩
      case measure => simp [RowKit.intOf]; omega
    · have hk16 : 16 ≤ k := by omega
      obtain ⟨gs, rfl⟩ := HV.out.some_ (by simp [sch_len]; omega)
      generalize k = ka at *
      go_wp2_with fail
      go_loopw [5, 7] (fun v i wr => ∃ (k ga cap : Nat), 16 ≤ k ∧ k ≤ 64 ∧ v = .slice (some ⟨ga, 0, none⟩) k cap ∧ i = .int .i64 k ∧ Hid (RwY w wr 225 (.slice (some ⟨ga, 0, none⟩) k cap) (u32C (sch l k)))) (fun _ i _ => 64 - (RowKit.intOf i).toNat)
      case atStart => exact ⟨ka, gs, cap, hk16, by omega, rfl, congrArg (Value.int .i64) (by omega), HV⟩
      case round =>
        clear HV
        obtain ⟨k, ga, cap, hk0, hk, rfl, rfl, HV⟩ := hrel
        by_cases hlt : k < 64
        · skip
          have HK : Hid ((u32C (sch l k)).length = k) := Lib.hid (by simp [sch_len])
          have gc : ∀ j, j < k → wr.cell? ⟨ga, j, none⟩ = some (.int .u32 ((sch l k).getD j 0)) := fun j hj => HV.out.get (by rw [sch_len]; exact hj)
          have d15 := gc (k - 15) (by omega)
          have d2 := gc (k - 2) (by omega)
          have d16 := gc (k - 16) (by omega)
          have d7 := gc (k - 7) (by omega)
          have HT : Hid (sch l (k + 1) = sch l k ++ [ext (sch l k) k]) := Lib.hid (by rw [sch, if_neg (by omega)])
          unfold ext at HT
          generalize (sch l k).getD (k - 15) 0 = y15 at *
          generalize (sch l k).getD (k - 2) 0 = y2 at *
          generalize (sch l k).getD (k - 16) 0 = y16 at *
          generalize (sch l k).getD (k - 7) 0 = y7 at *
          clear gc
          go_wp2_with fail
          refine reg_tree (Fr [] wr) 20 (.take 0 (.take 1 (.take 2 (.take 3 (.take 4 (.take 6 (.take 7 (.take 8 (.take 9 (.take 10 (.take 13 (.take 14 (.take 15 (.take 16 (.take 17 (.take 18 (.one 5 (.one 11 (.take 12 (.take 19 (.one 20 .nil))))))))))))))))))))) (by kernel_rfl) (by kernel_rfl) (by kernel_rfl) rfl ?_
          have F0 : Fr [] wr wr.drew := Fr.drew _ _
          generalize wr.drew = Wxa at F0 ⊢
          have S0 : (Fr [] wr) Wxa := F0
          (refine tree_take (v := ?_) rfl rfl rfl S0 (fun w hS => ?_) ?_; rotate_left; (focus (clear hS; go_simp; rfl)); simp only [List.setIfInBounds_toArray, List.set_cons_succ, List.set_cons_zero])
          (refine tree_take (v := ?_) rfl rfl rfl S0 (fun w hS => ?_) ?_; rotate_left; (focus (clear hS; go_simp; rfl)); simp only [List.setIfInBounds_toArray, List.set_cons_succ, List.set_cons_zero])
          (refine tree_take (v := ?_) rfl rfl rfl S0 (fun w hS => ?_) ?_; rotate_left; (focus (clear hS; go_simp; rw [IntWalk.i64_in ((k : Int) - 15) (by omega)])); simp only [List.setIfInBounds_toArray, List.set_cons_succ, List.set_cons_zero])
          (refine tree_take (v := ?_) rfl rfl rfl S0 (fun w hS => ?_) ?_; rotate_left; (focus (clear hS; go_simp; first | rfl | (refine idx_arr (k := k - 15) ?_ ?_ <;> omega))); simp only [List.setIfInBounds_toArray, List.set_cons_succ, List.set_cons_zero])
          (refine tree_take (v := ?_) rfl rfl rfl S0 (fun w hS => ?_) ?_; rotate_left; (focus (have d' := hS.cel d15 (by simp); clear hS; go_simp; rfl)); simp only [List.setIfInBounds_toArray, List.set_cons_succ, List.set_cons_zero])
          (refine tree_take (v := ?_) rfl rfl rfl S0 (fun w hS => ?_) ?_; rotate_left; (focus (clear hS; go_simp; rfl)); simp only [List.setIfInBounds_toArray, List.set_cons_succ, List.set_cons_zero])
          (refine tree_take (v := ?_) rfl rfl rfl S0 (fun w hS => ?_) ?_; rotate_left; (focus (clear hS; go_simp; rfl)); simp only [List.setIfInBounds_toArray, List.set_cons_succ, List.set_cons_zero])
          (refine tree_take (v := ?_) rfl rfl rfl S0 (fun w hS => ?_) ?_; rotate_left; (focus (clear hS; go_simp; rw [IntWalk.i64_in ((k : Int) - 15) (by omega)])); simp only [List.setIfInBounds_toArray, List.set_cons_succ, List.set_cons_zero])
          (refine tree_take (v := ?_) rfl rfl rfl S0 (fun w hS => ?_) ?_; rotate_left; (focus (clear hS; go_simp; first | rfl | (refine idx_arr (k := k - 15) ?_ ?_ <;> omega))); simp only [List.setIfInBounds_toArray, List.set_cons_succ, List.set_cons_zero])
          (refine tree_take (v := ?_) rfl rfl rfl S0 (fun w hS => ?_) ?_; rotate_left; (focus (have d' := hS.cel d15 (by simp); clear hS; go_simp; rfl)); simp only [List.setIfInBounds_toArray, List.set_cons_succ, List.set_cons_zero])
          (refine tree_take (v := ?_) rfl rfl rfl S0 (fun w hS => ?_) ?_; rotate_left; (focus (clear hS; go_simp; rfl)); simp only [List.setIfInBounds_toArray, List.set_cons_succ, List.set_cons_zero])
          (refine tree_take (v := ?_) rfl rfl rfl S0 (fun w hS => ?_) ?_; rotate_left; (focus (clear hS; go_simp; rfl)); simp only [List.setIfInBounds_toArray, List.set_cons_succ, List.set_cons_zero])
          (refine tree_take (v := ?_) rfl rfl rfl S0 (fun w hS => ?_) ?_; rotate_left; (focus (clear hS; go_simp; rw [IntWalk.i64_in ((k : Int) - 15) (by omega)])); simp only [List.setIfInBounds_toArray, List.set_cons_succ, List.set_cons_zero])
          (refine tree_take (v := ?_) rfl rfl rfl S0 (fun w hS => ?_) ?_; rotate_left; (focus (clear hS; go_simp; first | rfl | (refine idx_arr (k := k - 15) ?_ ?_ <;> omega))); simp only [List.setIfInBounds_toArray, List.set_cons_succ, List.set_cons_zero])
          (refine tree_take (v := ?_) rfl rfl rfl S0 (fun w hS => ?_) ?_; rotate_left; (focus (have d' := hS.cel d15 (by simp); clear hS; go_simp; rfl)); simp only [List.setIfInBounds_toArray, List.set_cons_succ, List.set_cons_zero])
          (refine tree_take (v := ?_) rfl rfl rfl S0 (fun w hS => ?_) ?_; rotate_left; (focus (clear hS; go_simp; rfl)); simp only [List.setIfInBounds_toArray, List.set_cons_succ, List.set_cons_zero])
          refine tree_one rfl rfl (fun K hK => ?_)
          go_simp
          refine (rot2_c y15 7 (by omega) Wxa).mono ?_
          rintro e Wxb ⟨rfl, fx⟩
          refine hK _ _ (S0.trans fx) ?_
          replace S0 := S0.trans fx
          replace F0 := F0.trans fx
          clear fx
          clear hK K
          try simp only [Act.put, List.setIfInBounds_toArray, List.set_cons_succ, List.set_cons_zero]
          refine tree_one rfl rfl (fun K hK => ?_)
          go_simp
          refine (rot2_c y15 18 (by omega) Wxb).mono ?_
          rintro e Wxc ⟨rfl, fx⟩
          refine hK _ _ (S0.trans fx) ?_
          replace S0 := S0.trans fx
          replace F0 := F0.trans fx
          clear fx
          clear hK K
          try simp only [Act.put, List.setIfInBounds_toArray, List.set_cons_succ, List.set_cons_zero]
          (refine tree_take (v := ?_) rfl rfl rfl S0 (fun w hS => ?_) ?_; rotate_left; (focus (clear hS; go_simp; rfl)); simp only [List.setIfInBounds_toArray, List.set_cons_succ, List.set_cons_zero])
          (refine tree_take (v := ?_) rfl rfl rfl S0 (fun w hS => ?_) ?_; rotate_left; (focus (clear hS; go_simp; rfl)); simp only [List.setIfInBounds_toArray, List.set_cons_succ, List.set_cons_zero])
          refine tree_last rfl rfl (fun K hK => ?_)
          go_simp
          try go_upon
          try go_simp
          refine hK _ _ ?_
          clear hK K
          refine noPanicN ?_

          rw [mix2_eq y15 8 7 18 (by decide) (by decide)]
          generalize xorI (mix y15 [7, 18]) (y15 / 8) = X8 at *
          replace d2 := F0.cel d2 (by simp)
          replace d16 := F0.cel d16 (by simp)
          replace d7 := F0.cel d7 (by simp)
          have HVx := Lib.hid (HV.out.same F0)
          clear d15 S0 F0 HV
          go_wp2_with fail
          refine reg_tree (Fr [] Wxc) 20 (.take 0 (.take 1 (.take 2 (.take 3 (.take 4 (.take 6 (.take 7 (.take 8 (.take 9 (.take 10 (.take 13 (.take 14 (.take 15 (.take 16 (.take 17 (.take 18 (.one 5 (.one 11 (.take 12 (.take 19 (.one 20 .nil))))))))))))))))))))) (by kernel_rfl) (by kernel_rfl) (by kernel_rfl) rfl ?_
          have F0 : Fr [] Wxc Wxc.drew := Fr.drew _ _
          generalize Wxc.drew = Wya at F0 ⊢
          have S0 : (Fr [] Wxc) Wya := F0
          (refine tree_take (v := ?_) rfl rfl rfl S0 (fun w hS => ?_) ?_; rotate_left; (focus (clear hS; go_simp; rfl)); simp only [List.setIfInBounds_toArray, List.set_cons_succ, List.set_cons_zero])
          (refine tree_take (v := ?_) rfl rfl rfl S0 (fun w hS => ?_) ?_; rotate_left; (focus (clear hS; go_simp; rfl)); simp only [List.setIfInBounds_toArray, List.set_cons_succ, List.set_cons_zero])
          (refine tree_take (v := ?_) rfl rfl rfl S0 (fun w hS => ?_) ?_; rotate_left; (focus (clear hS; go_simp; rw [IntWalk.i64_in ((k : Int) - 2) (by omega)])); simp only [List.setIfInBounds_toArray, List.set_cons_succ, List.set_cons_zero])
          (refine tree_take (v := ?_) rfl rfl rfl S0 (fun w hS => ?_) ?_; rotate_left; (focus (clear hS; go_simp; first | rfl | (refine idx_arr (k := k - 2) ?_ ?_ <;> omega))); simp only [List.setIfInBounds_toArray, List.set_cons_succ, List.set_cons_zero])
          (refine tree_take (v := ?_) rfl rfl rfl S0 (fun w hS => ?_) ?_; rotate_left; (focus (have d' := hS.cel d2 (by simp); clear hS; go_simp; rfl)); simp only [List.setIfInBounds_toArray, List.set_cons_succ, List.set_cons_zero])
          (refine tree_take (v := ?_) rfl rfl rfl S0 (fun w hS => ?_) ?_; rotate_left; (focus (clear hS; go_simp; rfl)); simp only [List.setIfInBounds_toArray, List.set_cons_succ, List.set_cons_zero])
          (refine tree_take (v := ?_) rfl rfl rfl S0 (fun w hS => ?_) ?_; rotate_left; (focus (clear hS; go_simp; rfl)); simp only [List.setIfInBounds_toArray, List.set_cons_succ, List.set_cons_zero])
          (refine tree_take (v := ?_) rfl rfl rfl S0 (fun w hS => ?_) ?_; rotate_left; (focus (clear hS; go_simp; rw [IntWalk.i64_in ((k : Int) - 2) (by omega)])); simp only [List.setIfInBounds_toArray, List.set_cons_succ, List.set_cons_zero])
          (refine tree_take (v := ?_) rfl rfl rfl S0 (fun w hS => ?_) ?_; rotate_left; (focus (clear hS; go_simp; first | rfl | (refine idx_arr (k := k - 2) ?_ ?_ <;> omega))); simp only [List.setIfInBounds_toArray, List.set_cons_succ, List.set_cons_zero])
          (refine tree_take (v := ?_) rfl rfl rfl S0 (fun w hS => ?_) ?_; rotate_left; (focus (have d' := hS.cel d2 (by simp); clear hS; go_simp; rfl)); simp only [List.setIfInBounds_toArray, List.set_cons_succ, List.set_cons_zero])
          (refine tree_take (v := ?_) rfl rfl rfl S0 (fun w hS => ?_) ?_; rotate_left; (focus (clear hS; go_simp; rfl)); simp only [List.setIfInBounds_toArray, List.set_cons_succ, List.set_cons_zero])
          (refine tree_take (v := ?_) rfl rfl rfl S0 (fun w hS => ?_) ?_; rotate_left; (focus (clear hS; go_simp; rfl)); simp only [List.setIfInBounds_toArray, List.set_cons_succ, List.set_cons_zero])
          (refine tree_take (v := ?_) rfl rfl rfl S0 (fun w hS => ?_) ?_; rotate_left; (focus (clear hS; go_simp; rw [IntWalk.i64_in ((k : Int) - 2) (by omega)])); simp only [List.setIfInBounds_toArray, List.set_cons_succ, List.set_cons_zero])
          (refine tree_take (v := ?_) rfl rfl rfl S0 (fun w hS => ?_) ?_; rotate_left; (focus (clear hS; go_simp; first | rfl | (refine idx_arr (k := k - 2) ?_ ?_ <;> omega))); simp only [List.setIfInBounds_toArray, List.set_cons_succ, List.set_cons_zero])
          (refine tree_take (v := ?_) rfl rfl rfl S0 (fun w hS => ?_) ?_; rotate_left; (focus (have d' := hS.cel d2 (by simp); clear hS; go_simp; rfl)); simp only [List.setIfInBounds_toArray, List.set_cons_succ, List.set_cons_zero])
          (refine tree_take (v := ?_) rfl rfl rfl S0 (fun w hS => ?_) ?_; rotate_left; (focus (clear hS; go_simp; rfl)); simp only [List.setIfInBounds_toArray, List.set_cons_succ, List.set_cons_zero])
          refine tree_one rfl rfl (fun K hK => ?_)
          go_simp
          refine (rot2_c y2 17 (by omega) Wya).mono ?_
          rintro e Wyb ⟨rfl, fx⟩
          refine hK _ _ (S0.trans fx) ?_
          replace S0 := S0.trans fx
          replace F0 := F0.trans fx
          clear fx
          clear hK K
          try simp only [Act.put, List.setIfInBounds_toArray, List.set_cons_succ, List.set_cons_zero]
          refine tree_one rfl rfl (fun K hK => ?_)
          go_simp
          refine (rot2_c y2 19 (by omega) Wyb).mono ?_
          rintro e Wyc ⟨rfl, fx⟩
          refine hK _ _ (S0.trans fx) ?_
          replace S0 := S0.trans fx
          replace F0 := F0.trans fx
          clear fx
          clear hK K
          try simp only [Act.put, List.setIfInBounds_toArray, List.set_cons_succ, List.set_cons_zero]
          (refine tree_take (v := ?_) rfl rfl rfl S0 (fun w hS => ?_) ?_; rotate_left; (focus (clear hS; go_simp; rfl)); simp only [List.setIfInBounds_toArray, List.set_cons_succ, List.set_cons_zero])
          (refine tree_take (v := ?_) rfl rfl rfl S0 (fun w hS => ?_) ?_; rotate_left; (focus (clear hS; go_simp; rfl)); simp only [List.setIfInBounds_toArray, List.set_cons_succ, List.set_cons_zero])
          refine tree_last rfl rfl (fun K hK => ?_)
          go_simp
          try go_upon
          try go_simp
          refine hK _ _ ?_
          clear hK K
          refine noPanicN ?_

          rw [mix2_eq y2 1024 17 19 (by decide) (by decide)]
          generalize xorI (mix y2 [17, 19]) (y2 / 1024) = X9 at *
          replace d16 := F0.cel d16 (by simp)
          replace d7 := F0.cel d7 (by simp)
          have HVe := Lib.hid (HVx.out.same F0)
          clear d2 S0 F0 HVx
          generalize Wyc = We at *
          go_wp2_with fail
          refine reg_tree (fun W => ∀ j y, j < k → We.cell? ⟨ga, j, none⟩ = some y → W.cell? ⟨ga, j, none⟩ = some y) 18 (.take 0 (.take 1 (.take 2 (.take 3 (.take 4 (.take 5 (.take 6 (.take 7 (.take 8 (.take 9 (.take 10 (.take 11 (.take 12 (.take 13 (.take 14 (.take 15 (.one 16 (.one 17 (.one 18 .nil))))))))))))))))))) (by kernel_rfl) (by kernel_rfl) (by kernel_rfl) rfl ?_
          have F0 : Fr [] We We.drew := Fr.drew _ _
          generalize We.drew = WC at F0 ⊢
          have S0 : (fun W => ∀ j y, j < k → We.cell? ⟨ga, j, none⟩ = some y → W.cell? ⟨ga, j, none⟩ = some y) WC := fun j y hj hy => F0.cel hy (by simp)
          (refine tree_take (v := ?_) rfl rfl rfl S0 (fun w hS => ?_) ?_; rotate_left; (focus (clear hS; go_simp; rfl)); simp only [List.setIfInBounds_toArray, List.set_cons_succ, List.set_cons_zero])
          (refine tree_take (v := ?_) rfl rfl rfl S0 (fun w hS => ?_) ?_; rotate_left; (focus (clear hS; go_simp; rfl)); simp only [List.setIfInBounds_toArray, List.set_cons_succ, List.set_cons_zero])
          (refine tree_take (v := ?_) rfl rfl rfl S0 (fun w hS => ?_) ?_; rotate_left; (focus (clear hS; go_simp; rfl)); simp only [List.setIfInBounds_toArray, List.set_cons_succ, List.set_cons_zero])
          (refine tree_take (v := ?_) rfl rfl rfl S0 (fun w hS => ?_) ?_; rotate_left; (focus (clear hS; go_simp; rw [IntWalk.i64_in ((k : Int) - 16) (by omega)])); simp only [List.setIfInBounds_toArray, List.set_cons_succ, List.set_cons_zero])
          (refine tree_take (v := ?_) rfl rfl rfl S0 (fun w hS => ?_) ?_; rotate_left; (focus (clear hS; go_simp; first | rfl | (refine idx_arr (k := k - 16) ?_ ?_ <;> omega))); simp only [List.setIfInBounds_toArray, List.set_cons_succ, List.set_cons_zero])
          (refine tree_take (v := ?_) rfl rfl rfl S0 (fun w hS => ?_) ?_; rotate_left; (focus (have d' := hS (k - 16) _ (by omega) d16; clear hS; go_simp; rfl)); simp only [List.setIfInBounds_toArray, List.set_cons_succ, List.set_cons_zero])
          (refine tree_take (v := ?_) rfl rfl rfl S0 (fun w hS => ?_) ?_; rotate_left; (focus (clear hS; go_simp; rfl)); simp only [List.setIfInBounds_toArray, List.set_cons_succ, List.set_cons_zero])
          (refine tree_take (v := ?_) rfl rfl rfl S0 (fun w hS => ?_) ?_; rotate_left; (focus (clear hS; go_simp; rfl)); simp only [List.setIfInBounds_toArray, List.set_cons_succ, List.set_cons_zero])
          (refine tree_take (v := ?_) rfl rfl rfl S0 (fun w hS => ?_) ?_; rotate_left; (focus (clear hS; go_simp; rfl)); simp only [List.setIfInBounds_toArray, List.set_cons_succ, List.set_cons_zero])
          (refine tree_take (v := ?_) rfl rfl rfl S0 (fun w hS => ?_) ?_; rotate_left; (focus (clear hS; go_simp; rfl)); simp only [List.setIfInBounds_toArray, List.set_cons_succ, List.set_cons_zero])
          (refine tree_take (v := ?_) rfl rfl rfl S0 (fun w hS => ?_) ?_; rotate_left; (focus (clear hS; go_simp; rw [IntWalk.i64_in ((k : Int) - 7) (by omega)])); simp only [List.setIfInBounds_toArray, List.set_cons_succ, List.set_cons_zero])
          (refine tree_take (v := ?_) rfl rfl rfl S0 (fun w hS => ?_) ?_; rotate_left; (focus (clear hS; go_simp; first | rfl | (refine idx_arr (k := k - 7) ?_ ?_ <;> omega))); simp only [List.setIfInBounds_toArray, List.set_cons_succ, List.set_cons_zero])
          (refine tree_take (v := ?_) rfl rfl rfl S0 (fun w hS => ?_) ?_; rotate_left; (focus (have d' := hS (k - 7) _ (by omega) d7; clear hS; go_simp; rfl)); simp only [List.setIfInBounds_toArray, List.set_cons_succ, List.set_cons_zero])
          (refine tree_take (v := ?_) rfl rfl rfl S0 (fun w hS => ?_) ?_; rotate_left; (focus (clear hS; go_simp; rfl)); simp only [List.setIfInBounds_toArray, List.set_cons_succ, List.set_cons_zero])
          (refine tree_take (v := ?_) rfl rfl rfl S0 (fun w hS => ?_) ?_; rotate_left; (focus (clear hS; go_simp; rfl)); simp only [List.setIfInBounds_toArray, List.set_cons_succ, List.set_cons_zero])
          (refine tree_take (v := ?_) rfl rfl rfl S0 (fun w hS => ?_) ?_; rotate_left; (focus (clear hS; go_simp; rfl)); simp only [List.setIfInBounds_toArray, List.set_cons_succ, List.set_cons_zero])
          refine tree_one rfl rfl (fun K hK => ?_)
          go_simp
          have fa := Fr.alloc [] WC (.cells #[.int .u32 (IntKind.u32.wrap (IntKind.u32.wrap (IntKind.u32.wrap (y16 + X8) + y7) + X9))] 225)
          have hN := heap_alloc_new WC (.cells #[.int .u32 (IntKind.u32.wrap (IntKind.u32.wrap (IntKind.u32.wrap (y16 + X8) + y7) + X9))] 225)
          have S1 := (fun j y hj hy => fa.cel (S0 j y hj hy) (by simp) : (fun W => ∀ j y, j < k → We.cell? ⟨ga, j, none⟩ = some y → W.cell? ⟨ga, j, none⟩ = some y) (WC.alloc (.cells #[.int .u32 (IntKind.u32.wrap (IntKind.u32.wrap (IntKind.u32.wrap (y16 + X8) + y7) + X9))] 225)))
          refine hK _ _ S1 ?_
          replace F0 := F0.trans fa
          clear S0
          have S0 := S1
          clear S1
          generalize WC.alloc (.cells #[.int .u32 (IntKind.u32.wrap (IntKind.u32.wrap (IntKind.u32.wrap (y16 + X8) + y7) + X9))] 225) = WD at *
          clear hK K
          try simp only [Act.put, List.setIfInBounds_toArray, List.set_cons_succ, List.set_cons_zero]
          refine tree_one rfl rfl (fun K hK => ?_)
          refine wp_app1k (.tmp 103) (.tmp 119) 226 225 (.int .u32 0) 4 rfl Tryz.underlying226 infoU32 rfl (by omega) ga k cap (u32C (sch l k)) rfl HK.out.symm (HVe.out.same F0) WC.heap.size 1 (.int .u32 (IntKind.u32.wrap (IntKind.u32.wrap (IntKind.u32.wrap (y16 + X8) + y7) + X9))) rfl (cell_of_blk hN 0) rfl (by omega) ?_
          intro gb capb W9 r9 k9
          refine hK _ _ (fun j y hj hy => k9 j y hj (S0 j y hj hy)) ?_
          clear k9 hN fa
          clear hK K
          try simp only [Act.put, List.setIfInBounds_toArray]
          refine tree_last rfl rfl (fun K hK => ?_)
          go_simp
          try go_upon
          try go_simp
          refine hK _ _ ?_
          clear hK K
          refine noPanicN ?_

          have H9 : Hid (RwY w W9 225 (.slice (some ⟨gb, 0, none⟩) (k + 1) capb) (u32C (sch l (k + 1)))) := Lib.hid (by rw [HT.out, u32C, List.map_append]; exact r9)
          clear r9 S0 F0 d16 d7 HVe HK HT
          go_wp2_with fail
          go_roundw
          case rel => exact ⟨k + 1, gb, capb, by omega, by omega, rfl, by go_num, H9⟩
          case measure => simp [RowKit.intOf]; omega
        · have hk64 : 64 ≤ k := by omega
          have HW0 : Hid (∀ j, j < 64 → wr.cell? ⟨ga, j, none⟩ = some (.int .u32 ((sch l 64).getD j 0))) := Lib.hid fun j hj => by
            have hV := HV.out
            rw [show sch l k = sch l 64 by rw [show k = 64 by omega]] at hV
            exact hV.get (by rw [sch_len]; exact hj)
          have HRes : Shut ((addB h l) = sum8 h (rnds (sch l 64) h 64)) := ⟨rfl⟩
          have HFw := Lib.hid HV.out.fr
          clear HV
          generalize sch l 64 = SC at *
          generalize k = kw at *
          go_wp2_with fail
          refine (const2_c wr).mono ?_
          rintro e W1 ⟨bk, rfl, hbk, hyk, f1⟩
          have HKt1 : Hid (∀ j, j < 64 → W1.cell? ⟨bk, j, none⟩ = some (.int .u32 (kTab.getD j 0))) := Lib.hid fun j hj => by rw [cell_of_blk hbk, u32A_get _ _ hj]
          have HW1 : Hid (∀ j, j < 64 → W1.cell? ⟨ga, j, none⟩ = some (.int .u32 (SC.getD j 0))) := Lib.hid fun j hj => f1.cel (HW0.out j hj) (by simp)
          have HF1 := Lib.hid (HFw.out.trans f1)
          clear hbk hyk f1 HW0 HFw
          go_wp2_with (first | ((with_reducible refine wpList_of_wp (o := ⟨some 124, _, _, _, _, _⟩) rfl (fun K hK => ?_)); apply stopD; case _other => exact trivial))
          (refine stopD ?_ ?_; rotate_left; exact trivial)
          refine wp_append_src (.tmp 122) (.tmp 123) 226 225 (.int .u32 0) 1 4 rfl Tryz.underlying226 infoU32 rfl (by decide) (.slice none 0 0) 0 [] rfl (World.ownsRow_nil _ _ _ _) (.slice (some ⟨bh, oh, none⟩) 8 hc) 8 (u32C h.list) rfl ((HH.out.same HF1.out).src (by omega)) (by simp [W8.list_len]) (by simp [Value.oneCell']) (by omega) (by omega) ?_
          intro gv capv W3 r3 f3 o3
          simp only [Nat.zero_add, List.nil_append] at r3 o3 ⊢
          refine hK _ _ ?_
          clear hK K
          have y3 : RwY W1 W3 225 (.slice gv 8 capv) (u32C h.list) := ⟨r3, fun g hg => by
            rcases o3 with h4 | h4
            · rw [hg] at h4; simp [Value.ownBlock] at h4
            · rw [hg] at h4; simp at h4; omega, f3⟩
          obtain ⟨g3, rfl⟩ := y3.some_ (by simp [W8.list_len])
          have HQ3 : Hid (∀ j, j < 8 → W3.cell? ⟨g3, j, none⟩ = some (.int .u32 ((rnds SC h 0).list.getD j 0))) := Lib.hid fun j hj => y3.get (l := h.list) (by rw [W8.list_len]; exact hj)
          have HW : Hid (∀ j, j < 64 → W3.cell? ⟨ga, j, none⟩ = some (.int .u32 (SC.getD j 0))) := Lib.hid fun j hj => y3.fr.cel (HW1.out j hj) (by simp)
          have HKt : Hid (∀ j, j < 64 → W3.cell? ⟨bk, j, none⟩ = some (.int .u32 (kTab.getD j 0))) := Lib.hid fun j hj => y3.fr.cel (HKt1.out j hj) (by simp)
          have HF3 := Lib.hid (HF1.out.trans y3.fr)
          clear r3 f3 o3 y3 HW1 HKt1 HF1
          generalize hgg : ga = gw at *
          clear hgg
          go_wp2_with fail
          go_loopw [11, 12] (fun v i wr => ∃ (k g c : Nat), k ≤ 64 ∧ v = .slice (some ⟨g, 0, none⟩) 8 c ∧ i = .int .i64 k ∧ Hid (Fr [] W3 wr) ∧ Hid (∀ j, j < 8 → wr.cell? ⟨g, j, none⟩ = some (.int .u32 ((rnds SC h k).list.getD j 0)))) (fun _ i _ => 64 - (RowKit.intOf i).toNat)
          case atStart => exact ⟨0, g3, capv, Nat.zero_le _, rfl, rfl, Lib.hid (Fr.refl _ _), HQ3⟩
          case round =>
            clear HQ3 hk0 hk hlt
            obtain ⟨k, g, c, hk, rfl, rfl, HF, HQ⟩ := hrel
            by_cases hlt : k < 64
            · skip
              have q0 : wr.cell? ⟨g, 0, none⟩ = some (.int .u32 (rnds SC h k).a) := HQ.out 0 (by omega)
              have q1 : wr.cell? ⟨g, 1, none⟩ = some (.int .u32 (rnds SC h k).b) := HQ.out 1 (by omega)
              have q2 : wr.cell? ⟨g, 2, none⟩ = some (.int .u32 (rnds SC h k).c) := HQ.out 2 (by omega)
              have q3 : wr.cell? ⟨g, 3, none⟩ = some (.int .u32 (rnds SC h k).d) := HQ.out 3 (by omega)
              have q4 : wr.cell? ⟨g, 4, none⟩ = some (.int .u32 (rnds SC h k).e) := HQ.out 4 (by omega)
              have q5 : wr.cell? ⟨g, 5, none⟩ = some (.int .u32 (rnds SC h k).f) := HQ.out 5 (by omega)
              have q6 : wr.cell? ⟨g, 6, none⟩ = some (.int .u32 (rnds SC h k).g) := HQ.out 6 (by omega)
              have q7 : wr.cell? ⟨g, 7, none⟩ = some (.int .u32 (rnds SC h k).h) := HQ.out 7 (by omega)
              have qw : wr.cell? ⟨gw, k, none⟩ = some (.int .u32 (SC.getD k 0)) := HF.out.cel (HW.out k hlt) (by simp)
              have qk : wr.cell? ⟨bk, k, none⟩ = some (.int .u32 (kTab.getD k 0)) := HF.out.cel (HKt.out k hlt) (by simp)
              have HT : Hid (rnds SC h (k + 1) = rnd (rnds SC h k) (kTab.getD k 0) (SC.getD k 0)) := Lib.hid rfl
              generalize kTab.getD k 0 = kk at *
              generalize SC.getD k 0 = ww at *
              generalize rnds SC h k = V at *
              clear HQ
              go_wp2_with fail
              refine reg_tree (Fr [] wr) 35 (.take 0 (.take 1 (.take 2 (.take 3 (.take 5 (.take 8 (.take 12 (.take 13 (.take 14 (.take 15 (.take 16 (.take 17 (.take 18 (.take 19 (.take 20 (.take 21 (.take 22 (.take 23 (.take 25 (.take 26 (.take 27 (.take 28 (.take 30 (.take 31 (.take 32 (.take 33 (.one 4 (.one 6 (.take 7 (.one 9 (.take 10 (.take 11 (.take 24 (.take 29 (.take 34 (.one 35 .nil)))))))))))))))))))))))))))))))))))) (by kernel_rfl) (by kernel_rfl) (by kernel_rfl) rfl ?_
              have F0 : Fr [] wr wr.drew := Fr.drew _ _
              generalize wr.drew = Wt at F0 ⊢
              have S0 : (Fr [] wr) Wt := F0
              (refine tree_take (v := ?_) rfl rfl rfl S0 (fun w hS => ?_) ?_; rotate_left; (focus (clear hS; go_simp; rfl)); simp only [List.setIfInBounds_toArray, List.set_cons_succ, List.set_cons_zero])
              (refine tree_take (v := ?_) rfl rfl rfl S0 (fun w hS => ?_) ?_; rotate_left; (focus (clear hS; go_simp; rfl)); simp only [List.setIfInBounds_toArray, List.set_cons_succ, List.set_cons_zero])
              (refine tree_take (v := ?_) rfl rfl rfl S0 (fun w hS => ?_) ?_; rotate_left; (focus (have d' := hS.cel q7 (by simp); clear hS; go_simp; rfl)); simp only [List.setIfInBounds_toArray, List.set_cons_succ, List.set_cons_zero])
              (refine tree_take (v := ?_) rfl rfl rfl S0 (fun w hS => ?_) ?_; rotate_left; (focus (clear hS; go_simp; rfl)); simp only [List.setIfInBounds_toArray, List.set_cons_succ, List.set_cons_zero])
              (refine tree_take (v := ?_) rfl rfl rfl S0 (fun w hS => ?_) ?_; rotate_left; (focus (clear hS; go_simp; rfl)); simp only [List.setIfInBounds_toArray, List.set_cons_succ, List.set_cons_zero])
              (refine tree_take (v := ?_) rfl rfl rfl S0 (fun w hS => ?_) ?_; rotate_left; (focus (clear hS; go_simp; rfl)); simp only [List.setIfInBounds_toArray, List.set_cons_succ, List.set_cons_zero])
              (refine tree_take (v := ?_) rfl rfl rfl S0 (fun w hS => ?_) ?_; rotate_left; (focus (clear hS; go_simp; rfl)); simp only [List.setIfInBounds_toArray, List.set_cons_succ, List.set_cons_zero])
              (refine tree_take (v := ?_) rfl rfl rfl S0 (fun w hS => ?_) ?_; rotate_left; (focus (clear hS; go_simp; rfl)); simp only [List.setIfInBounds_toArray, List.set_cons_succ, List.set_cons_zero])
              (refine tree_take (v := ?_) rfl rfl rfl S0 (fun w hS => ?_) ?_; rotate_left; (focus (clear hS; go_simp; rfl)); simp only [List.setIfInBounds_toArray, List.set_cons_succ, List.set_cons_zero])
              (refine tree_take (v := ?_) rfl rfl rfl S0 (fun w hS => ?_) ?_; rotate_left; (focus (have d' := hS.cel q5 (by simp); clear hS; go_simp; rfl)); simp only [List.setIfInBounds_toArray, List.set_cons_succ, List.set_cons_zero])
              (refine tree_take (v := ?_) rfl rfl rfl S0 (fun w hS => ?_) ?_; rotate_left; (focus (clear hS; go_simp; rfl)); simp only [List.setIfInBounds_toArray, List.set_cons_succ, List.set_cons_zero])
              (refine tree_take (v := ?_) rfl rfl rfl S0 (fun w hS => ?_) ?_; rotate_left; (focus (clear hS; go_simp; rfl)); simp only [List.setIfInBounds_toArray, List.set_cons_succ, List.set_cons_zero])
              (refine tree_take (v := ?_) rfl rfl rfl S0 (fun w hS => ?_) ?_; rotate_left; (focus (clear hS; go_simp; rw [if_neg (show ¬ (IntKind.u32.signed = true) by decide)])); simp only [List.setIfInBounds_toArray, List.set_cons_succ, List.set_cons_zero])
              (refine tree_take (v := ?_) rfl rfl rfl S0 (fun w hS => ?_) ?_; rotate_left; (focus (clear hS; go_simp; rfl)); simp only [List.setIfInBounds_toArray, List.set_cons_succ, List.set_cons_zero])
              (refine tree_take (v := ?_) rfl rfl rfl S0 (fun w hS => ?_) ?_; rotate_left; (focus (clear hS; go_simp; rfl)); simp only [List.setIfInBounds_toArray, List.set_cons_succ, List.set_cons_zero])
              (refine tree_take (v := ?_) rfl rfl rfl S0 (fun w hS => ?_) ?_; rotate_left; (focus (have d' := hS.cel q6 (by simp); clear hS; go_simp; rfl)); simp only [List.setIfInBounds_toArray, List.set_cons_succ, List.set_cons_zero])
              (refine tree_take (v := ?_) rfl rfl rfl S0 (fun w hS => ?_) ?_; rotate_left; (focus (clear hS; go_simp; rfl)); simp only [List.setIfInBounds_toArray, List.set_cons_succ, List.set_cons_zero])
              (refine tree_take (v := ?_) rfl rfl rfl S0 (fun w hS => ?_) ?_; rotate_left; (focus (clear hS; go_simp; rfl)); simp only [List.setIfInBounds_toArray, List.set_cons_succ, List.set_cons_zero])
              (refine tree_take (v := ?_) rfl rfl rfl S0 (fun w hS => ?_) ?_; rotate_left; (focus (clear hS; go_simp; rfl)); simp only [List.setIfInBounds_toArray, List.set_cons_succ, List.set_cons_zero])
              (refine tree_take (v := ?_) rfl rfl rfl S0 (fun w hS => ?_) ?_; rotate_left; (focus (clear hS; go_simp; rfl)); simp only [List.setIfInBounds_toArray, List.set_cons_succ, List.set_cons_zero])
              (refine tree_take (v := ?_) rfl rfl rfl S0 (fun w hS => ?_) ?_; rotate_left; (focus (clear hS; go_simp; first | rfl | (refine idx_arr (k := k) ?_ ?_ <;> omega))); simp only [List.setIfInBounds_toArray, List.set_cons_succ, List.set_cons_zero])
              (refine tree_take (v := ?_) rfl rfl rfl S0 (fun w hS => ?_) ?_; rotate_left; (focus (have d' := hS.cel qk (by simp); clear hS; go_simp; rfl)); simp only [List.setIfInBounds_toArray, List.set_cons_succ, List.set_cons_zero])
              (refine tree_take (v := ?_) rfl rfl rfl S0 (fun w hS => ?_) ?_; rotate_left; (focus (clear hS; go_simp; rfl)); simp only [List.setIfInBounds_toArray, List.set_cons_succ, List.set_cons_zero])
              (refine tree_take (v := ?_) rfl rfl rfl S0 (fun w hS => ?_) ?_; rotate_left; (focus (clear hS; go_simp; rfl)); simp only [List.setIfInBounds_toArray, List.set_cons_succ, List.set_cons_zero])
              (refine tree_take (v := ?_) rfl rfl rfl S0 (fun w hS => ?_) ?_; rotate_left; (focus (clear hS; go_simp; first | rfl | (refine idx_arr (k := k) ?_ ?_ <;> omega))); simp only [List.setIfInBounds_toArray, List.set_cons_succ, List.set_cons_zero])
              (refine tree_take (v := ?_) rfl rfl rfl S0 (fun w hS => ?_) ?_; rotate_left; (focus (have d' := hS.cel qw (by simp); clear hS; go_simp; rfl)); simp only [List.setIfInBounds_toArray, List.set_cons_succ, List.set_cons_zero])
              refine tree_one rfl rfl (fun K hK => ?_)
              go_simp
              refine (rot2_c V.e 6 (by omega) Wt).mono ?_
              rintro e Wt1 ⟨rfl, fx⟩
              refine hK _ _ (S0.trans fx) ?_
              replace S0 := S0.trans fx
              replace F0 := F0.trans fx
              clear fx
              clear hK K
              try simp only [Act.put, List.setIfInBounds_toArray, List.set_cons_succ, List.set_cons_zero]
              refine tree_one rfl rfl (fun K hK => ?_)
              go_simp
              refine (rot2_c V.e 11 (by omega) Wt1).mono ?_
              rintro e Wt2 ⟨rfl, fx⟩
              refine hK _ _ (S0.trans fx) ?_
              replace S0 := S0.trans fx
              replace F0 := F0.trans fx
              clear fx
              clear hK K
              try simp only [Act.put, List.setIfInBounds_toArray, List.set_cons_succ, List.set_cons_zero]
              (refine tree_take (v := ?_) rfl rfl rfl S0 (fun w hS => ?_) ?_; rotate_left; (focus (clear hS; go_simp; rfl)); simp only [List.setIfInBounds_toArray, List.set_cons_succ, List.set_cons_zero])
              refine tree_one rfl rfl (fun K hK => ?_)
              go_simp
              refine (rot2_c V.e 25 (by omega) Wt2).mono ?_
              rintro e Wt3 ⟨rfl, fx⟩
              refine hK _ _ (S0.trans fx) ?_
              replace S0 := S0.trans fx
              replace F0 := F0.trans fx
              clear fx
              clear hK K
              try simp only [Act.put, List.setIfInBounds_toArray, List.set_cons_succ, List.set_cons_zero]
              (refine tree_take (v := ?_) rfl rfl rfl S0 (fun w hS => ?_) ?_; rotate_left; (focus (clear hS; go_simp; rfl)); simp only [List.setIfInBounds_toArray, List.set_cons_succ, List.set_cons_zero])
              (refine tree_take (v := ?_) rfl rfl rfl S0 (fun w hS => ?_) ?_; rotate_left; (focus (clear hS; go_simp; rfl)); simp only [List.setIfInBounds_toArray, List.set_cons_succ, List.set_cons_zero])
              (refine tree_take (v := ?_) rfl rfl rfl S0 (fun w hS => ?_) ?_; rotate_left; (focus (clear hS; go_simp; rfl)); simp only [List.setIfInBounds_toArray, List.set_cons_succ, List.set_cons_zero])
              (refine tree_take (v := ?_) rfl rfl rfl S0 (fun w hS => ?_) ?_; rotate_left; (focus (clear hS; go_simp; rfl)); simp only [List.setIfInBounds_toArray, List.set_cons_succ, List.set_cons_zero])
              (refine tree_take (v := ?_) rfl rfl rfl S0 (fun w hS => ?_) ?_; rotate_left; (focus (clear hS; go_simp; rfl)); simp only [List.setIfInBounds_toArray, List.set_cons_succ, List.set_cons_zero])
              refine tree_last rfl rfl (fun K hK => ?_)
              go_simp
              try go_upon
              try go_simp
              refine hK _ _ ?_
              clear hK K
              refine noPanicN ?_

              rw [tOf_eq V kk ww]
              generalize hT1 : tOf V kk ww = T at *
              have HT1 : Shut (tOf V kk ww = T) := ⟨hT1⟩
              clear hT1
              replace q1 := F0.cel q1 (by simp)
              replace q2 := F0.cel q2 (by simp)
              replace q3 := F0.cel q3 (by simp)
              replace q5 := F0.cel q5 (by simp)
              replace q6 := F0.cel q6 (by simp)
              replace HF := Lib.hid (HF.out.trans F0)
              clear q0 q4 q7 qw qk S0 F0
              go_wp2_with fail
              refine reg_tree (Fr [] Wt3) 28 (.take 0 (.take 2 (.take 5 (.take 8 (.take 9 (.take 10 (.take 11 (.take 12 (.take 13 (.take 14 (.take 15 (.take 16 (.take 17 (.take 18 (.take 19 (.take 20 (.take 21 (.take 22 (.take 23 (.take 24 (.take 25 (.take 26 (.one 1 (.one 3 (.take 4 (.one 6 (.take 7 (.take 27 (.one 28 .nil))))))))))))))))))))))))))))) (by kernel_rfl) (by kernel_rfl) (by kernel_rfl) rfl ?_
              have F0 : Fr [] Wt3 Wt3.drew := Fr.drew _ _
              generalize Wt3.drew = Wu at F0 ⊢
              have S0 : (Fr [] Wt3) Wu := F0
              (refine tree_take (v := ?_) rfl rfl rfl S0 (fun w hS => ?_) ?_; rotate_left; (focus (clear hS; go_simp; rfl)); simp only [List.setIfInBounds_toArray, List.set_cons_succ, List.set_cons_zero])
              (refine tree_take (v := ?_) rfl rfl rfl S0 (fun w hS => ?_) ?_; rotate_left; (focus (clear hS; go_simp; rfl)); simp only [List.setIfInBounds_toArray, List.set_cons_succ, List.set_cons_zero])
              (refine tree_take (v := ?_) rfl rfl rfl S0 (fun w hS => ?_) ?_; rotate_left; (focus (clear hS; go_simp; rfl)); simp only [List.setIfInBounds_toArray, List.set_cons_succ, List.set_cons_zero])
              (refine tree_take (v := ?_) rfl rfl rfl S0 (fun w hS => ?_) ?_; rotate_left; (focus (clear hS; go_simp; rfl)); simp only [List.setIfInBounds_toArray, List.set_cons_succ, List.set_cons_zero])
              (refine tree_take (v := ?_) rfl rfl rfl S0 (fun w hS => ?_) ?_; rotate_left; (focus (clear hS; go_simp; rfl)); simp only [List.setIfInBounds_toArray, List.set_cons_succ, List.set_cons_zero])
              (refine tree_take (v := ?_) rfl rfl rfl S0 (fun w hS => ?_) ?_; rotate_left; (focus (clear hS; go_simp; rfl)); simp only [List.setIfInBounds_toArray, List.set_cons_succ, List.set_cons_zero])
              (refine tree_take (v := ?_) rfl rfl rfl S0 (fun w hS => ?_) ?_; rotate_left; (focus (have d' := hS.cel q1 (by simp); clear hS; go_simp; rfl)); simp only [List.setIfInBounds_toArray, List.set_cons_succ, List.set_cons_zero])
              (refine tree_take (v := ?_) rfl rfl rfl S0 (fun w hS => ?_) ?_; rotate_left; (focus (clear hS; go_simp; rfl)); simp only [List.setIfInBounds_toArray, List.set_cons_succ, List.set_cons_zero])
              (refine tree_take (v := ?_) rfl rfl rfl S0 (fun w hS => ?_) ?_; rotate_left; (focus (clear hS; go_simp; rfl)); simp only [List.setIfInBounds_toArray, List.set_cons_succ, List.set_cons_zero])
              (refine tree_take (v := ?_) rfl rfl rfl S0 (fun w hS => ?_) ?_; rotate_left; (focus (clear hS; go_simp; rfl)); simp only [List.setIfInBounds_toArray, List.set_cons_succ, List.set_cons_zero])
              (refine tree_take (v := ?_) rfl rfl rfl S0 (fun w hS => ?_) ?_; rotate_left; (focus (clear hS; go_simp; rfl)); simp only [List.setIfInBounds_toArray, List.set_cons_succ, List.set_cons_zero])
              (refine tree_take (v := ?_) rfl rfl rfl S0 (fun w hS => ?_) ?_; rotate_left; (focus (have d' := hS.cel q2 (by simp); clear hS; go_simp; rfl)); simp only [List.setIfInBounds_toArray, List.set_cons_succ, List.set_cons_zero])
              (refine tree_take (v := ?_) rfl rfl rfl S0 (fun w hS => ?_) ?_; rotate_left; (focus (clear hS; go_simp; rfl)); simp only [List.setIfInBounds_toArray, List.set_cons_succ, List.set_cons_zero])
              (refine tree_take (v := ?_) rfl rfl rfl S0 (fun w hS => ?_) ?_; rotate_left; (focus (clear hS; go_simp; rfl)); simp only [List.setIfInBounds_toArray, List.set_cons_succ, List.set_cons_zero])
              (refine tree_take (v := ?_) rfl rfl rfl S0 (fun w hS => ?_) ?_; rotate_left; (focus (clear hS; go_simp; rfl)); simp only [List.setIfInBounds_toArray, List.set_cons_succ, List.set_cons_zero])
              (refine tree_take (v := ?_) rfl rfl rfl S0 (fun w hS => ?_) ?_; rotate_left; (focus (clear hS; go_simp; rfl)); simp only [List.setIfInBounds_toArray, List.set_cons_succ, List.set_cons_zero])
              (refine tree_take (v := ?_) rfl rfl rfl S0 (fun w hS => ?_) ?_; rotate_left; (focus (have d' := hS.cel q1 (by simp); clear hS; go_simp; rfl)); simp only [List.setIfInBounds_toArray, List.set_cons_succ, List.set_cons_zero])
              (refine tree_take (v := ?_) rfl rfl rfl S0 (fun w hS => ?_) ?_; rotate_left; (focus (clear hS; go_simp; rfl)); simp only [List.setIfInBounds_toArray, List.set_cons_succ, List.set_cons_zero])
              (refine tree_take (v := ?_) rfl rfl rfl S0 (fun w hS => ?_) ?_; rotate_left; (focus (clear hS; go_simp; rfl)); simp only [List.setIfInBounds_toArray, List.set_cons_succ, List.set_cons_zero])
              (refine tree_take (v := ?_) rfl rfl rfl S0 (fun w hS => ?_) ?_; rotate_left; (focus (have d' := hS.cel q2 (by simp); clear hS; go_simp; rfl)); simp only [List.setIfInBounds_toArray, List.set_cons_succ, List.set_cons_zero])
              (refine tree_take (v := ?_) rfl rfl rfl S0 (fun w hS => ?_) ?_; rotate_left; (focus (clear hS; go_simp; rfl)); simp only [List.setIfInBounds_toArray, List.set_cons_succ, List.set_cons_zero])
              (refine tree_take (v := ?_) rfl rfl rfl S0 (fun w hS => ?_) ?_; rotate_left; (focus (clear hS; go_simp; rfl)); simp only [List.setIfInBounds_toArray, List.set_cons_succ, List.set_cons_zero])
              refine tree_one rfl rfl (fun K hK => ?_)
              go_simp
              refine (rot2_c V.a 2 (by omega) Wu).mono ?_
              rintro e Wu1 ⟨rfl, fx⟩
              refine hK _ _ (S0.trans fx) ?_
              replace S0 := S0.trans fx
              replace F0 := F0.trans fx
              clear fx
              clear hK K
              try simp only [Act.put, List.setIfInBounds_toArray, List.set_cons_succ, List.set_cons_zero]
              refine tree_one rfl rfl (fun K hK => ?_)
              go_simp
              refine (rot2_c V.a 13 (by omega) Wu1).mono ?_
              rintro e Wu2 ⟨rfl, fx⟩
              refine hK _ _ (S0.trans fx) ?_
              replace S0 := S0.trans fx
              replace F0 := F0.trans fx
              clear fx
              clear hK K
              try simp only [Act.put, List.setIfInBounds_toArray, List.set_cons_succ, List.set_cons_zero]
              (refine tree_take (v := ?_) rfl rfl rfl S0 (fun w hS => ?_) ?_; rotate_left; (focus (clear hS; go_simp; rfl)); simp only [List.setIfInBounds_toArray, List.set_cons_succ, List.set_cons_zero])
              refine tree_one rfl rfl (fun K hK => ?_)
              go_simp
              refine (rot2_c V.a 22 (by omega) Wu2).mono ?_
              rintro e Wu3 ⟨rfl, fx⟩
              refine hK _ _ (S0.trans fx) ?_
              replace S0 := S0.trans fx
              replace F0 := F0.trans fx
              clear fx
              clear hK K
              try simp only [Act.put, List.setIfInBounds_toArray, List.set_cons_succ, List.set_cons_zero]
              (refine tree_take (v := ?_) rfl rfl rfl S0 (fun w hS => ?_) ?_; rotate_left; (focus (clear hS; go_simp; rfl)); simp only [List.setIfInBounds_toArray, List.set_cons_succ, List.set_cons_zero])
              (refine tree_take (v := ?_) rfl rfl rfl S0 (fun w hS => ?_) ?_; rotate_left; (focus (clear hS; go_simp; rfl)); simp only [List.setIfInBounds_toArray, List.set_cons_succ, List.set_cons_zero])
              refine tree_last rfl rfl (fun K hK => ?_)
              go_simp
              try go_upon
              try go_simp
              refine hK _ _ ?_
              clear hK K
              refine noPanicN ?_

              rw [uOf_eq V]
              generalize hU1 : uOf V = U at *
              have HU1 : Shut (uOf V = U) := ⟨hU1⟩
              clear hU1
              replace q1 := F0.cel q1 (by simp)
              replace q2 := F0.cel q2 (by simp)
              replace q3 := F0.cel q3 (by simp)
              replace q5 := F0.cel q5 (by simp)
              replace q6 := F0.cel q6 (by simp)
              replace HF := Lib.hid (HF.out.trans F0)
              clear S0 F0
              go_wp2_with fail
              refine reg_tree (Fr [] Wu3) 23 (.take 0 (.take 1 (.take 2 (.take 3 (.take 4 (.take 5 (.take 6 (.take 7 (.take 8 (.take 9 (.take 10 (.take 11 (.take 12 (.take 13 (.take 14 (.take 15 (.take 16 (.take 17 (.take 18 (.take 19 (.take 20 (.take 21 (.one 22 (.one 23 .nil)))))))))))))))))))))))) (by kernel_rfl) (by kernel_rfl) (by kernel_rfl) rfl ?_
              have F0 : Fr [] Wu3 Wu3.drew := Fr.drew _ _
              generalize Wu3.drew = Wv at F0 ⊢
              have S0 : (Fr [] Wu3) Wv := F0
              (refine tree_take (v := ?_) rfl rfl rfl S0 (fun w hS => ?_) ?_; rotate_left; (focus (clear hS; go_simp; rfl)); simp only [List.setIfInBounds_toArray, List.set_cons_succ, List.set_cons_zero])
              (refine tree_take (v := ?_) rfl rfl rfl S0 (fun w hS => ?_) ?_; rotate_left; (focus (clear hS; go_simp; rfl)); simp only [List.setIfInBounds_toArray, List.set_cons_succ, List.set_cons_zero])
              (refine tree_take (v := ?_) rfl rfl rfl S0 (fun w hS => ?_) ?_; rotate_left; (focus (clear hS; go_simp; rfl)); simp only [List.setIfInBounds_toArray, List.set_cons_succ, List.set_cons_zero])
              (refine tree_take (v := ?_) rfl rfl rfl S0 (fun w hS => ?_) ?_; rotate_left; (focus (clear hS; go_simp; rfl)); simp only [List.setIfInBounds_toArray, List.set_cons_succ, List.set_cons_zero])
              (refine tree_take (v := ?_) rfl rfl rfl S0 (fun w hS => ?_) ?_; rotate_left; (focus (clear hS; go_simp; rfl)); simp only [List.setIfInBounds_toArray, List.set_cons_succ, List.set_cons_zero])
              (refine tree_take (v := ?_) rfl rfl rfl S0 (fun w hS => ?_) ?_; rotate_left; (focus (clear hS; go_simp; rfl)); simp only [List.setIfInBounds_toArray, List.set_cons_succ, List.set_cons_zero])
              (refine tree_take (v := ?_) rfl rfl rfl S0 (fun w hS => ?_) ?_; rotate_left; (focus (have d' := hS.cel q1 (by simp); clear hS; go_simp; rfl)); simp only [List.setIfInBounds_toArray, List.set_cons_succ, List.set_cons_zero])
              (refine tree_take (v := ?_) rfl rfl rfl S0 (fun w hS => ?_) ?_; rotate_left; (focus (clear hS; go_simp; rfl)); simp only [List.setIfInBounds_toArray, List.set_cons_succ, List.set_cons_zero])
              (refine tree_take (v := ?_) rfl rfl rfl S0 (fun w hS => ?_) ?_; rotate_left; (focus (clear hS; go_simp; rfl)); simp only [List.setIfInBounds_toArray, List.set_cons_succ, List.set_cons_zero])
              (refine tree_take (v := ?_) rfl rfl rfl S0 (fun w hS => ?_) ?_; rotate_left; (focus (have d' := hS.cel q2 (by simp); clear hS; go_simp; rfl)); simp only [List.setIfInBounds_toArray, List.set_cons_succ, List.set_cons_zero])
              (refine tree_take (v := ?_) rfl rfl rfl S0 (fun w hS => ?_) ?_; rotate_left; (focus (clear hS; go_simp; rfl)); simp only [List.setIfInBounds_toArray, List.set_cons_succ, List.set_cons_zero])
              (refine tree_take (v := ?_) rfl rfl rfl S0 (fun w hS => ?_) ?_; rotate_left; (focus (clear hS; go_simp; rfl)); simp only [List.setIfInBounds_toArray, List.set_cons_succ, List.set_cons_zero])
              (refine tree_take (v := ?_) rfl rfl rfl S0 (fun w hS => ?_) ?_; rotate_left; (focus (have d' := hS.cel q3 (by simp); clear hS; go_simp; rfl)); simp only [List.setIfInBounds_toArray, List.set_cons_succ, List.set_cons_zero])
              (refine tree_take (v := ?_) rfl rfl rfl S0 (fun w hS => ?_) ?_; rotate_left; (focus (clear hS; go_simp; rfl)); simp only [List.setIfInBounds_toArray, List.set_cons_succ, List.set_cons_zero])
              (refine tree_take (v := ?_) rfl rfl rfl S0 (fun w hS => ?_) ?_; rotate_left; (focus (clear hS; go_simp; rfl)); simp only [List.setIfInBounds_toArray, List.set_cons_succ, List.set_cons_zero])
              (refine tree_take (v := ?_) rfl rfl rfl S0 (fun w hS => ?_) ?_; rotate_left; (focus (clear hS; go_simp; rfl)); simp only [List.setIfInBounds_toArray, List.set_cons_succ, List.set_cons_zero])
              (refine tree_take (v := ?_) rfl rfl rfl S0 (fun w hS => ?_) ?_; rotate_left; (focus (clear hS; go_simp; rfl)); simp only [List.setIfInBounds_toArray, List.set_cons_succ, List.set_cons_zero])
              (refine tree_take (v := ?_) rfl rfl rfl S0 (fun w hS => ?_) ?_; rotate_left; (focus (clear hS; go_simp; rfl)); simp only [List.setIfInBounds_toArray, List.set_cons_succ, List.set_cons_zero])
              (refine tree_take (v := ?_) rfl rfl rfl S0 (fun w hS => ?_) ?_; rotate_left; (focus (have d' := hS.cel q5 (by simp); clear hS; go_simp; rfl)); simp only [List.setIfInBounds_toArray, List.set_cons_succ, List.set_cons_zero])
              (refine tree_take (v := ?_) rfl rfl rfl S0 (fun w hS => ?_) ?_; rotate_left; (focus (clear hS; go_simp; rfl)); simp only [List.setIfInBounds_toArray, List.set_cons_succ, List.set_cons_zero])
              (refine tree_take (v := ?_) rfl rfl rfl S0 (fun w hS => ?_) ?_; rotate_left; (focus (clear hS; go_simp; rfl)); simp only [List.setIfInBounds_toArray, List.set_cons_succ, List.set_cons_zero])
              (refine tree_take (v := ?_) rfl rfl rfl S0 (fun w hS => ?_) ?_; rotate_left; (focus (have d' := hS.cel q6 (by simp); clear hS; go_simp; rfl)); simp only [List.setIfInBounds_toArray, List.set_cons_succ, List.set_cons_zero])
              refine tree_one rfl rfl (fun K hK => ?_)
              go_simp
              have fa := Fr.alloc [] Wv (.cells #[.int .u32 (IntKind.u32.wrap (T + U)), .int .u32 V.a, .int .u32 V.b, .int .u32 V.c, .int .u32 (IntKind.u32.wrap (V.d + T)), .int .u32 V.e, .int .u32 V.f, .int .u32 V.g] 225)
              have hN := heap_alloc_new Wv (.cells #[.int .u32 (IntKind.u32.wrap (T + U)), .int .u32 V.a, .int .u32 V.b, .int .u32 V.c, .int .u32 (IntKind.u32.wrap (V.d + T)), .int .u32 V.e, .int .u32 V.f, .int .u32 V.g] 225)
              have S1 := S0.trans fa
              refine hK _ _ S1 ?_
              replace F0 := F0.trans fa
              clear S0
              have S0 := S1
              clear S1
              generalize Wv.alloc (.cells #[.int .u32 (IntKind.u32.wrap (T + U)), .int .u32 V.a, .int .u32 V.b, .int .u32 V.c, .int .u32 (IntKind.u32.wrap (V.d + T)), .int .u32 V.e, .int .u32 V.f, .int .u32 V.g] 225) = Wz at *
              clear hK K
              try simp only [Act.put, List.setIfInBounds_toArray, List.set_cons_succ, List.set_cons_zero]
              refine tree_last rfl rfl (fun K hK => ?_)
              go_simp
              try go_upon
              try go_simp
              refine hK _ _ ?_
              clear hK K
              refine noPanicN ?_

              have HQ9 : Hid (∀ j, j < 8 → Wz.cell? ⟨Wv.heap.size, j, none⟩ = some (.int .u32 ((rnds SC h (k + 1)).list.getD j 0))) := Lib.hid (by
                intro j hj
                rw [HT.out, cell_of_blk hN, rnd_list V kk ww T U HT1.out HU1.out]
                match j with
                | 0 => rfl
                | 1 => rfl
                | 2 => rfl
                | 3 => rfl
                | 4 => rfl
                | 5 => rfl
                | 6 => rfl
                | 7 => rfl
                | j + 8 => omega)
              have HF9 := Lib.hid (HF.out.trans F0)
              clear S0 F0 HF q1 q2 q3 q5 q6 HT HT1 HU1 hN fa
              go_wp2_with fail
              go_roundw
              case rel => exact ⟨k + 1, Wv.heap.size, 8, by omega, rfl, by go_num, HF9, HQ9⟩
              case measure => simp [RowKit.intOf]; omega
            · have HRs : Shut ((addB h l) = sum8 h (rnds SC h k)) := ⟨by rw [show k = 64 by omega]; exact HRes.out⟩
              have hkr : 64 ≤ k := by omega
              clear HRes
              generalize rnds SC h k = V at *
              generalize k = kr at *
              generalize hW4 : wr = W4 at *
              clear hW4
              have HLb : Hid (bh < W4.heap.size ∧ g < W4.heap.size) := Lib.hid ⟨Nat.lt_of_lt_of_le (cell_ltB (HHc.out 0 (by omega))) (HF3.out.trans HF.out).size, cell_ltB (HQ.out 0 (by omega))⟩
              have HHc4 : Hid (∀ j, j < 8 → W4.cell? ⟨bh, oh + j, none⟩ = some (.int .u32 (h.list.getD j 0))) := Lib.hid fun j hj => (HF3.out.trans HF.out).cel (HHc.out j hj) (by simp)
              have HF4 := Lib.hid (HF3.out.trans HF.out)
              clear HHc HF3 HF HW HKt
              have HHc := HHc4
              clear HHc4
              go_wp2_with fail
              go_loopw [17, 18] (fun v i wr => ∃ (k : Nat) (ga : Option Addr) (cap : Nat), k ≤ 8 ∧ v = .slice ga k cap ∧ i = .int .i64 k ∧ Hid (RwY W4 wr 225 (.slice ga k cap) (u32C ((sum8 h V).list.take k)))) (fun _ i _ => 8 - (RowKit.intOf i).toNat)
              case atStart => exact ⟨0, none, 0, Nat.zero_le _, rfl, rfl, Lib.hid (RwY.nil _ _)⟩
              case round =>
                obtain ⟨k, ga, cap, hk, rfl, rfl, HO⟩ := hrel
                by_cases hlt : k < 8
                · skip
                  have HK : Hid ((u32C ((sum8 h V).list.take k)).length = k) := Lib.hid (by simp [W8.list_len]; omega)
                  have e0 : wr.cell? ⟨bh, oh + k, none⟩ = some (.int .u32 (h.list.getD k 0)) := (HO.out.fr).cel (HHc.out k hlt) (by simp)
                  have e1 : wr.cell? ⟨g, k, none⟩ = some (.int .u32 (V.list.getD k 0)) := (HO.out.fr).cel (HQ.out k hlt) (by simp)
                  have HT : Hid ((sum8 h V).list.take (k + 1) = (sum8 h V).list.take k ++ [IntKind.u32.wrap (h.list.getD k 0 + V.list.getD k 0)]) := Lib.hid (sum8_take h V hlt)
                  have hb1 : bh ∉ (Value.slice ga k cap).ownBlock.toList := fun hm => by
                    have := HO.out.young bh (by simpa using hm)
                    have := HLb.out.1
                    omega
                  have hb2 : g ∉ (Value.slice ga k cap).ownBlock.toList := fun hm => by
                    have := HO.out.young g (by simpa using hm)
                    have := HLb.out.2
                    omega
                  generalize h.list.getD k 0 = hk at *
                  generalize V.list.getD k 0 = vk at *
                  go_wp2_with fail
                  refine reg_tree (Fr (Value.slice ga k cap).ownBlock.toList wr) 12 (.take 0 (.take 1 (.take 2 (.take 3 (.take 4 (.take 5 (.take 6 (.take 7 (.take 8 (.take 9 (.one 10 (.one 11 (.one 12 .nil))))))))))))) (by kernel_rfl) (by kernel_rfl) (by kernel_rfl) rfl ?_
                  have F0 : Fr [] wr wr.drew := Fr.drew _ _
                  generalize wr.drew = WC at F0 ⊢
                  have S0 : (Fr (Value.slice ga k cap).ownBlock.toList wr) WC := F0.mono (by simp)
                  (refine tree_take (v := ?_) rfl rfl rfl S0 (fun w hS => ?_) ?_; rotate_left; (focus (clear hS; go_simp; rfl)); simp only [List.setIfInBounds_toArray, List.set_cons_succ, List.set_cons_zero])
                  (refine tree_take (v := ?_) rfl rfl rfl S0 (fun w hS => ?_) ?_; rotate_left; (focus (clear hS; go_simp; rfl)); simp only [List.setIfInBounds_toArray, List.set_cons_succ, List.set_cons_zero])
                  (refine tree_take (v := ?_) rfl rfl rfl S0 (fun w hS => ?_) ?_; rotate_left; (focus (clear hS; go_simp; rfl)); simp only [List.setIfInBounds_toArray, List.set_cons_succ, List.set_cons_zero])
                  (refine tree_take (v := ?_) rfl rfl rfl S0 (fun w hS => ?_) ?_; rotate_left; (focus (clear hS; go_simp; first | rfl | (refine idx_ok (k := k) ?_ ?_ <;> omega))); simp only [List.setIfInBounds_toArray, List.set_cons_succ, List.set_cons_zero])
                  (refine tree_take (v := ?_) rfl rfl rfl S0 (fun w hS => ?_) ?_; rotate_left; (focus (have d' := hS.cel e0 hb1; clear hS; go_simp; rfl)); simp only [List.setIfInBounds_toArray, List.set_cons_succ, List.set_cons_zero])
                  (refine tree_take (v := ?_) rfl rfl rfl S0 (fun w hS => ?_) ?_; rotate_left; (focus (clear hS; go_simp; rfl)); simp only [List.setIfInBounds_toArray, List.set_cons_succ, List.set_cons_zero])
                  (refine tree_take (v := ?_) rfl rfl rfl S0 (fun w hS => ?_) ?_; rotate_left; (focus (clear hS; go_simp; rfl)); simp only [List.setIfInBounds_toArray, List.set_cons_succ, List.set_cons_zero])
                  (refine tree_take (v := ?_) rfl rfl rfl S0 (fun w hS => ?_) ?_; rotate_left; (focus (clear hS; go_simp; first | rfl | (refine idx_arr (k := k) ?_ ?_ <;> omega))); simp only [List.setIfInBounds_toArray, List.set_cons_succ, List.set_cons_zero])
                  (refine tree_take (v := ?_) rfl rfl rfl S0 (fun w hS => ?_) ?_; rotate_left; (focus (have d' := hS.cel e1 hb2; clear hS; go_simp; rfl)); simp only [List.setIfInBounds_toArray, List.set_cons_succ, List.set_cons_zero])
                  (refine tree_take (v := ?_) rfl rfl rfl S0 (fun w hS => ?_) ?_; rotate_left; (focus (clear hS; go_simp; rfl)); simp only [List.setIfInBounds_toArray, List.set_cons_succ, List.set_cons_zero])
                  refine tree_one rfl rfl (fun K hK => ?_)
                  go_simp
                  have fa := Fr.alloc [] WC (.cells #[.int .u32 (IntKind.u32.wrap (hk + vk))] 225)
                  have hN := heap_alloc_new WC (.cells #[.int .u32 (IntKind.u32.wrap (hk + vk))] 225)
                  have S1 := S0.trans (fa.mono (by simp))
                  refine hK _ _ S1 ?_
                  replace F0 := F0.trans fa
                  clear S0
                  have S0 := S1
                  clear S1
                  generalize WC.alloc (.cells #[.int .u32 (IntKind.u32.wrap (hk + vk))] 225) = WD at *
                  clear hK K
                  try simp only [Act.put, List.setIfInBounds_toArray, List.set_cons_succ, List.set_cons_zero]
                  refine tree_one rfl rfl (fun K hK => ?_)
                  refine wp_app1 (.tmp 225) (.tmp 235) 226 225 (.int .u32 0) 4 rfl Tryz.underlying226 infoU32 rfl (by omega) (.slice ga k cap) (u32C ((sum8 h V).list.take k)) rfl (HO.out.same F0) WC.heap.size 1 (.int .u32 (IntKind.u32.wrap (hk + vk))) rfl (cell_of_blk hN 0) rfl (by rw [HK.out]; omega) ?_
                  intro gb capb W9 r9 f9
                  refine hK _ _ (S0.trans f9) ?_
                  rw [HK.out] at r9 ⊢
                  clear f9 hN fa
                  clear hK K
                  try simp only [Act.put, List.setIfInBounds_toArray]
                  refine tree_last rfl rfl (fun K hK => ?_)
                  go_simp
                  try go_upon
                  try go_simp
                  refine hK _ _ ?_
                  clear hK K
                  refine noPanicN ?_

                  have H9 : Hid (RwY W4 W9 225 (.slice gb (k + 1) capb) (u32C ((sum8 h V).list.take (k + 1)))) := Lib.hid (by rw [HT.out, u32C, List.map_append]; exact r9)
                  clear r9 S0 F0 e0 e1 HO HK HT hb1 hb2
                  go_wp2_with fail
                  go_roundw
                  case rel => exact ⟨k + 1, gb, capb, by omega, rfl, by go_num, H9⟩
                  case measure => simp [RowKit.intOf]; omega
                · obtain rfl : k = 8 := by omega
                  have e8 : (sum8 h V).list.take 8 = (sum8 h V).list := rfl
                  have H9 : Hid (RwY w wr 225 (.slice ga 8 cap) (u32C (addB h l).list)) := Lib.hid (by
                    have hO := HO.out
                    rw [e8] at hO
                    rw [HRs.out]
                    exact ⟨hO.row, fun g hg => Nat.le_trans HF4.out.size (hO.young g hg), HF4.out.trans hO.fr⟩)
                  clear e8 HO HQ HHc HRs
                  go_wp2_with fail
                  go_ret
                  exact ⟨_, _, rfl, H9.out⟩

end Go.Proofs.YtahfpadaoobkfaaGreatDoor
