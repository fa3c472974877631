/-
  slices.Chunk at []byte: its iterator.
-/
import Derived.Test.YtbogljpafpkikaaGreatDoorQDg5
import Derived.Test.YtbogljpafpkikaaGreatDoorQRfB
namespace Go.Proofs.YtbogljpafpkikaaGreatDoor
open Go.RowKit Go.Shelf Go.Lib

attribute [local go_sem] Oper.semAt_some

theorem finTake {m k : Nat} (h : k < m) : (List.finRange m).take (k + 1) = (List.finRange m).take k ++ [⟨k, h⟩] := by
  rw [List.take_succ_eq_append_getElem (by simpa using h)]
  simp

theorem sl_tail {w : World} {g k n cap : Nat} {R : Result Next} (hn : 64 * k ≤ n) (hc : 64 * k < cap) : (if 0 ≤ 64 * (k : Int) ∧ 64 * (k : Int) ≤ (n : Int) then Result.ok (Next.value (.slice (if cap = (64 * (k : Int)).toNat then some ⟨g, 0, none⟩ else some ⟨g, (64 * (k : Int)).toNat, none⟩) (n - (64 * (k : Int)).toNat) (cap - (64 * (k : Int)).toNat))) w else R) = .ok (Next.value (.slice (some ⟨g, 64 * k, none⟩) (n - 64 * k) (cap - 64 * k))) w := by
  have e : (64 * (k : Int)).toNat = 64 * k := by omega
  rw [if_pos (by omega), e, if_neg (by omega)]

set_option maxRecDepth 100000 in
set_option maxHeartbeats 4000000 in
theorem chunk1_in (N l g cap m n bx bn : Nat) (W0 : World) (bq : Nat) (hx : W0.heap[bx]? = some (.cells #[.slice (some ⟨g, 0, none⟩) n cap] 39 (0, 0))) (hb : W0.heap[bn]? = some (.cells #[.int .i64 64] 3 (0, 0))) (hxq : bx ≠ bq) (hbq : bn ≠ bq)
    (hn1 : n ≤ 64 * m) (hn2 : 64 * m ≤ n) (hcap : n ≤ cap) (_hc : cap ≤ 9223372036854775807) (hbig : n ≤ 140737488355328)
    (J Jx : List (Fin m) → World → Prop)
    (hY : ∀ pre x W, J pre W → pre.length < m → YieldAt Fence.wide (N - 1) Tryz.prog l #[.slice (some ⟨g, 64 * x.1, none⟩) 64 64] W fun e W' =>
      (e = .returned (.bool true) ∧ J (pre ++ [x]) W' ∧ KpO W0.heap.size bq W W') ∨ (e = .returned (.bool false) ∧ Jx (pre ++ [x]) W'))
    (hJ : ∀ s A B, J s A → Fr [] A B → J s B)
    (W : World) (hW : Below W0.heap.size W0 W) (h0 : J [] W) :
    CallsIn Fence.wide N Tryz.prog 135 #[.func (.yield l) #[] #[], .pointer (some ⟨bx, 0, none⟩), .pointer (some ⟨bn, 0, none⟩)] W fun e W' => (∃ v, e = .returned v) ∧
      ((∃ ys, ys = List.finRange m ∧ J ys W') ∨ (∃ pre, pre <+: List.finRange m ∧ Jx pre W')) := by
  have HX := Lib.hid hx; have HB := Lib.hid hb
  have HY := Lib.hid hY
  have HJ := Lib.hid hJ
  have HW := Lib.hid ((Fr.of_below [] hW).mono (fp2 := [bq]) (by simp))
  have HJ0 := Lib.hid h0
  clear hx hb hY hJ hW h0
  refine callsIn_of_wp Tryz.func135 rfl trivial ?_ rfl
  simp only [Tryz.ntmps135, List.size_toArray, List.length_cons, List.length_nil, Nat.reduceAdd, Nat.reduceSub, Array.replicate_succ, Array.replicate_zero, List.push_toArray, List.append_toArray, List.nil_append, List.cons_append]
  gi_wp2
  gi_loopw [4] (fun s wr => ∃ k : Nat, k ≤ m ∧ s = .int .i64 (64 * (k : Int)) ∧ Hid (Fr [bq] W0 wr) ∧ Hid (J ((List.finRange m).take k) wr)) (fun s _ => n - (RowKit.intOf s).toNat)
  case atStart => exact ⟨0, Nat.zero_le _, rfl, HW, HJ0⟩
  case round =>
    obtain ⟨k, hk, rfl, HF, HP⟩ := hrel
    have cx := cell_of_blk (HF.out.keep HX.out (by simpa using hxq)) 0
    have cn := cell_of_blk (HF.out.keep HB.out (by simpa using hbq)) 0
    by_cases hlt : k < m
    · have hkn : 64 * k + 64 ≤ n := by omega
      gi_wp2
      refine wpIn_wide.2 ?_
      refine reg_mix (Fr [] wr) [0, 1, 2, 3, 4, 5, 6] (by kernel_rfl) (by kernel_rfl) (by kernel_rfl) rfl (Fr.drew _ _) ?_
      have FC : Fr [] wr wr.drew := Fr.drew _ _
      generalize wr.drew = WC at FC ⊢
      iterate 3 (refine mix_take1 (v := ?_) rfl rfl rfl rfl (fun w hS => ?_) ?_; rotate_left; (focus (have s0 := hS.cel cx (by simp); have s1 := hS.cel cn (by simp); clear hS; go_simp; rfl)); simp only [List.setIfInBounds_toArray, List.set_cons_succ, List.set_cons_zero])
      (refine mix_take1 (v := ?_) rfl rfl rfl rfl (fun w hS => ?_) ?_; rotate_left; (focus (clear hS; go_simp; refine sl_tail ?_ ?_ <;> omega)); simp only [List.setIfInBounds_toArray, List.set_cons_succ, List.set_cons_zero])
      (refine mix_take1 (v := ?_) rfl rfl rfl rfl (fun w hS => ?_) ?_; rotate_left; (focus (clear hS; go_simp; rfl)); simp only [List.setIfInBounds_toArray, List.set_cons_succ, List.set_cons_zero])
      (refine mix_take1 (v := ?_) rfl rfl rfl rfl (fun w hS => ?_) ?_; rotate_left; (focus (clear hS; go_simp; rw [show min (64 : Int) ((n - 64 * k : Nat) : Int) = 64 by omega])); simp only [List.setIfInBounds_toArray, List.set_cons_succ, List.set_cons_zero])
      (refine mix_take1 (v := ?_) rfl rfl rfl rfl (fun w hS => ?_) ?_; rotate_left; (focus (clear hS; go_simp; rfl)); simp only [List.setIfInBounds_toArray, List.set_cons_succ, List.set_cons_zero])
      refine mix_end ?_
      have HPC := Lib.hid (HJ.out _ _ _ HP.out FC)
      have HFC := Lib.hid (HF.out.trans (FC.mono (fp2 := [bq]) (by simp)))
      have cx := FC.cel cx (by simp)
      clear FC cn
      obtain ⟨fn, tmps, assign, body, hy, hR⟩ := HY.out _ ⟨k, hlt⟩ WC HPC.out (by rw [List.length_take, List.length_finRange]; omega)
      have HRR := Lib.hid hR
      dsimp only at hy
      clear hR
      gi_wp2
      refine ⟨fun hh => (by cases hh), ?_⟩
      refine HRR.out.mono ?_
      rintro e W3 (⟨rfl, hJ3, hk3⟩ | ⟨rfl, hJx3⟩)
      · have HF3 := Lib.hid (KpO.fr HFC.out hk3)
        have HJ3 := Lib.hid hJ3
        have cn3 := cell_of_blk (HF3.out.keep HB.out (by simpa using hbq)) 0
        clear hk3 hJ3 cx
        gi_wp2
        go_roundw
        case rel => exact ⟨k + 1, by omega, congrArg (Value.int .i64) (by omega), HF3, by rw [finTake hlt]; exact HJ3⟩
        case measure => simp [RowKit.intOf]; omega
      · gi_wp2
        refine bodyPost_ret (results_none rfl _ _ _) rfl ?_
        exact ⟨⟨_, rfl⟩, .inr ⟨_, by rw [← finTake hlt]; exact List.take_prefix _ _, hJx3⟩⟩
    · have hkm : k = m := by omega
      have HPM : Hid (J (List.finRange m) wr) := Lib.hid (by have := HP.out; rwa [List.take_of_length_le (by rw [List.length_finRange]; omega)] at this)
      have hge : ¬ (64 * (k : Int) < n) := by omega
      clear hkm
      gi_wp2
      go_end0
      exact ⟨⟨_, rfl⟩, .inl HPM.out⟩

/-- As a loop wants it. -/
theorem chunk_seq (g cap m n bx bn : Nat) (W0 : World) (bq : Nat) (hx : W0.heap[bx]? = some (.cells #[.slice (some ⟨g, 0, none⟩) n cap] 39 (0, 0))) (hb : W0.heap[bn]? = some (.cells #[.int .i64 64] 3 (0, 0))) (hxq : bx ≠ bq) (hbq : bn ≠ bq)
    (hn1 : n ≤ 64 * m) (hn2 : 64 * m ≤ n) (hcap : n ≤ cap) (hc : cap ≤ 9223372036854775807) (hbig : n ≤ 140737488355328) :
    SeqStopsK Fence.wide 2 Tryz.prog 135 #[.pointer (some ⟨bx, 0, none⟩), .pointer (some ⟨bn, 0, none⟩)] (fun x : Fin m => #[.slice (some ⟨g, 64 * x.1, none⟩) 64 64]) (KpO W0.heap.size bq) (fun ys => ys = List.finRange m) (fun pre => pre <+: List.finRange m) m W0 := by
  intro l J Jx W hW hJ _ hY h0
  refine (chunk1_in 2 l g cap m n bx bn W0 bq hx hb hxq hbq hn1 hn2 hcap hc hbig J Jx hY (fun s A B hj hf => hJ s A B none hj hf.grownO (fun r e => by cases e)) W hW h0).mono ?_
  rintro e W' ⟨he, ⟨ys, h1, h2⟩ | ⟨pre, h1, h2⟩⟩
  · exact ⟨he, .inl ⟨_, h1, h2⟩⟩
  · exact ⟨he, .inr ⟨_, h1, h2⟩⟩

set_option maxRecDepth 100000 in
theorem chunk_c (a : Option Addr) (n cap : Nat) (w : World) : Calls Tryz.prog 115 #[.slice a n cap, .int .i64 64] w fun e w' => e = .returned (.func (.func 135) #[] #[.pointer (some ⟨w.heap.size, 0, none⟩), .pointer (some ⟨w.heap.size + 1, 0, none⟩)]) ∧ w' = (w.alloc (.cells #[.slice a n cap] 39)).alloc (.cells #[.int .i64 64] 3) := by
  go_enter Tryz.func115, Tryz.ntmps115
  go_wp2_with fail
  go_ret
  exact ⟨rfl, rfl⟩

end Go.Proofs.YtbogljpafpkikaaGreatDoor
