/-
  A slice of bytes that the call owns, marked or not; []byte of a string; append of one byte.
-/
import Derived.Test.YtahfpadaoobkfaaGreatDoorQS06
import Derived.Lib.ConvBytes
import Derived.ArgAppend
import Derived.RangeFuncNested
import Derived.RangeFuncBound
import Derived.RangeFuncCalls
import Derived.RangeFuncLeaves
import Derived.Shelf.Abstract
import Derived.Shelf.RegionOpen
import Derived.OwnWalkIn
import Derived.TacticsInMore
import Derived.LoopNIn
import Derived.LoopIn
import Derived.Test.YtahfpadaoobkfaaGreatDoorQS01
namespace Go.Proofs.YtahfpadaoobkfaaGreatDoor
open Go.RowKit Go.Lib

structure RowB (w : World) (base g cap n : Nat) (l : List Int) : Prop where
  ge : base ≤ g
  len : l.length = n
  le : n ≤ cap
  max : cap ≤ 9223372036854775807
  blk : ∃ cur fz, w.heap[g]? = some (.cells cur 5 fz) ∧ cur.size = cap ∧ cur.toList.take n = u8C l ∧ ∀ j, j < cap → ¬ (fz.1 ≤ j ∧ j < fz.2)
theorem RowB.same {w w' : World} {base g cap n : Nat} {l : List Int} {S : List Nat} (h : RowB w base g cap n l) (hf : Fr S w w') (hS : g ∉ S) : RowB w' base g cap n l := by
  obtain ⟨cur, fz, h1, h2⟩ := h.blk
  exact ⟨h.ge, h.len, h.le, h.max, cur, fz, hf.keep h1 hS, h2⟩
theorem RowB.cell {w : World} {base g cap n : Nat} {l : List Int} (h : RowB w base g cap n l) {j : Nat} {u : Value} (hj : (u8C l)[j]? = some u) : w.cell? ⟨g, j, none⟩ = some u := by
  obtain ⟨cur, fz, h1, h2, h3, _⟩ := h.blk
  have hl : j < n := by
    have := (List.getElem?_eq_some_iff.1 hj).1
    rw [← h.len]; simpa using this
  rw [cell_of_blk h1, ← Array.getElem?_toList]
  rw [← h3, List.getElem?_take_of_lt hl] at hj
  exact hj
theorem RowB.lt {w : World} {base g cap n : Nat} {l : List Int} (h : RowB w base g cap n l) : g < w.heap.size := by
  obtain ⟨cur, fz, h1, _⟩ := h.blk
  exact blk_lt h1
theorem infoBy : (Tryz.prog.info? 5).map (fun i => (i.zero, i.size, i.bytes)) = some (some (.int .u8 0), 1, 1) := by kernel_rfl
theorem add_at (g j : Nat) : (⟨g, 0, none⟩ : Addr).add j = ⟨g, j, none⟩ := by
  unfold Addr.add
  split
  · rename_i h; subst h; rfl
  · simp

theorem wp_append_b {o : Oper} {a : Act} {w : World} {K : Act → World → Prop} {Q : Exit → Act → World → Prop} (s x : Operand) (ho : o.op = .call { callee := .builtin .append, args := #[s, x], argTypes := #[160, 160] })
    (base g cap n : Nat) (l : List Int) (b : Int) (hs : a.eval s = .slice (some ⟨g, 0, none⟩) n cap) (hr : RowB w base g cap n l) (hb : base ≤ w.heap.size) (sb c : Nat) (hx : a.eval x = .slice (some ⟨sb, 0, none⟩) 1 c) (hsb : w.cell? ⟨sb, 0, none⟩ = some (.int .u8 b)) (hlen : n + 1 ≤ 140737488355328)
    (h : ∀ g' cap' w', RowB w' base g' cap' (n + 1) (l ++ [b]) → Fr [g] w w' → K (a.put o.dst (.slice (some ⟨g', 0, none⟩) (n + 1) cap')) w') : o.wp Tryz.prog a w K Q := by
  obtain ⟨i, hi, hz0, hz1, hz2⟩ := info_parts infoBy
  have hnews : ∀ j u, [Value.int .u8 b][j]? = some u → w.cell? ((⟨sb, 0, none⟩ : Addr).add j) = some u := by
    intro j u hu
    match j with
    | 0 => simp only [List.getElem?_cons_zero, Option.some.injEq] at hu; subst hu; rw [add_at]; exact hsb
    | j + 1 => simp at hu
  obtain ⟨cur, fz, h1, h2, h3, h4⟩ := hr.blk
  have hcl : (u8C l).length = n := by simp [hr.len]
  have hul : (u8C (l ++ [b])) = u8C l ++ [.int .u8 b] := by simp [u8C]
  have key : ∃ g' cap' w', (Builtin.append_ #[160, 160] o.type #[.slice (some ⟨g, 0, none⟩) n cap, .slice (some ⟨sb, 0, none⟩) 1 c]).run Tryz.prog w = .ok (.slice (some ⟨g', 0, none⟩) (n + 1) cap') w' ∧ RowB w' base g' cap' (n + 1) (l ++ [b]) ∧ Fr [g] w w' := by
    by_cases hroom : n + 1 ≤ cap
    · have hrun := run_append_room_cells (P := Tryz.prog) w 160 o.type 5 i Tryz.underlying160 hi g 0 n cap ⟨sb, 0, none⟩ 1 c [.int .u8 b] (by simp [hz1]) hnews (by simp [Value.oneCell']) hroom
        (fun j hj => by
          simp only [List.length_cons, List.length_nil] at hj
          rw [hz1, cell_of_blk h1, Array.getElem?_eq_getElem (by omega)]; rfl)
        (fun j hj => by
          simp only [List.length_cons, List.length_nil] at hj
          simp only [World.frozen?, h1, Bool.and_eq_false_iff, decide_eq_false_iff_not]
          have := h4 (0 + n * i.size + j) (by rw [hz1]; omega)
          rw [Decidable.not_and_iff_or_not] at this
          exact this)
      refine ⟨g, cap, _, hrun, ?_, ?_⟩
      · have e : w.setCells g (0 + n * i.size) [.int .u8 b] = w.setCell ⟨g, n, none⟩ (.int .u8 b) := by rw [hz1, Nat.mul_one, Nat.zero_add]; rfl
        rw [e]
        refine ⟨hr.ge, by simp [hr.len], hroom, hr.max, _, fz, heap_setCell_same _ h1, by simp [h2], ?_, h4⟩
        rw [hul, Array.toList_setIfInBounds, List.take_succ_eq_append_getElem (by simp; omega), List.getElem_set_self, List.take_set_of_le (Nat.le_refl _), h3]
      · have e : w.setCells g (0 + n * i.size) [.int .u8 b] = w.setCell ⟨g, 0 + n * i.size, none⟩ (.int .u8 b) := rfl
        rw [e]
        exact Fr.setCell _ _ (by simp)
    · have hrun := run_append_grow (P := Tryz.prog) w 160 o.type 5 i (.int .u8 0) Tryz.underlying160 hi hz0 ⟨g, 0, none⟩ n cap (u8C l) (by rw [hcl, hz1, Nat.mul_one]) (fun j u hu => by rw [add_at]; exact hr.cell hu) ⟨sb, 0, none⟩ 1 c [.int .u8 b] (by simp [hz1]) hnews (by omega) (by omega) (growslice_fits (by omega) (by rw [hz2]; omega))
      have hge := grownCap_ge w (n + 1) cap 5
      have hcm := grownCap_le_maxLen w (n + 1) cap 5 (by simp only [maxLen]; omega)
      refine ⟨_, _, _, hrun, ⟨hb, by simp [hr.len], hge, by simp only [maxLen] at hcm; omega, _, (0, 0), heap_alloc_new w.drew _, ?_, ?_, fun j _ => by simp⟩, (Fr.drew _ _).trans (Fr.alloc _ _ _)⟩
      · have hz1' : (Value.int IntKind.u8 0).cells.size = 1 := rfl
        simp only [Array.size_append, List.size_toArray, size_zeroCells, hz1', hcl, List.length_cons, List.length_nil]
        omega
      · rw [hul]
        simp only [Array.toList_append]
        rw [List.take_left' (by simp [hr.len])]
  obtain ⟨g', cap', w', hrun, hr2, hf⟩ := key
  unfold Oper.wp execOp
  simp only [ho, resolve, invoke, builtin, Sem.run_bind, Sem.run_pure, Result.andThen_ok, List.map_toArray, List.map_cons, List.map_nil, hs, hx, hrun]
  exact h g' cap' w' hr2 hf

theorem wp_str_bytes {o : Oper} {a : Act} {w : World} {K : Act → World → Prop} {Q : Exit → Act → World → Prop} (x : Operand) (ho : o.op = .convert 9 160 x) (s : ByteArray) (hx : a.eval x = .string s) (hl : s.size ≤ 9223372036854775807) (base : Nat) (hb : base ≤ w.heap.size)
    (h : ∀ g cap w', RowB w' base g cap s.size (bI s.data.toList) → Fr [] w w' → K (a.put o.dst (.slice (some ⟨g, 0, none⟩) s.size cap)) w') : o.wp Tryz.prog a w K Q := by
  have hrun := Lib.run_convert_string_bytes (P := Tryz.prog) w 9 160 5 s Tryz.underlying9 Tryz.underlying160 Tryz.underlying5
  have hge := grownCap_ge w s.size 0 5
  have hcm := grownCap_le_maxLen w s.size 0 5 (by simp only [maxLen]; exact hl)
  have hz : (bytesCells w 5 s).size = grownCap w s.size 0 5 := by
    simp only [bytesCells, Array.size_append, Array.size_map, Array.size_replicate]
    have : s.data.size = s.size := rfl
    omega
  unfold Oper.wp execOp
  simp only [ho, Sem.run_bind, Sem.run_pure, Result.andThen_ok, hx, hrun]
  refine h _ _ _ ⟨hb, by rw [bI_len]; rfl, hge, by simp only [maxLen] at hcm; omega, _, _, bytesWorld_at_new w 5 s, hz, ?_, fun j hj => by rw [hz]; simp only; omega⟩ ⟨rfl, rfl, rfl, by rw [bytesWorld_size]; omega, fun k hk _ => bytesWorld_at_old w 5 s k hk⟩
  rw [u8C_bI, bytesCells, Array.toList_append, List.take_left' (by simp)]
  simp [byteCells]

end Go.Proofs.YtahfpadaoobkfaaGreatDoor

/-
  Ranges over a function: what a round keeps (all but one block).
-/
namespace Go.Proofs.YtahfpadaoobkfaaGreatDoor
open Go.RowKit Go.Shelf Go.Lib

/-- What a round keeps: what lies below n, but one block. -/
structure KpO (n bq : Nat) (A B : World) : Prop where
  os : B.os = A.os
  tape : B.tape = A.tape
  output : B.output = A.output
  size : A.heap.size ≤ B.heap.size
  block : ∀ k, k < n → k ≠ bq → B.heap[k]? = A.heap[k]?
theorem KpO.trans {n bq : Nat} {A B C : World} (h : KpO n bq A B) (k : KpO n bq B C) : KpO n bq A C := ⟨k.os.trans h.os, k.tape.trans h.tape, k.output.trans h.output, Nat.le_trans h.size k.size, fun i hi hn => (k.block i hi hn).trans (h.block i hi hn)⟩
theorem KpO.of {n bq : Nat} {A B : World} (h : Fr [bq] A B) (hn : n ≤ A.heap.size) : KpO n bq A B := ⟨h.os, h.tape, h.output, h.size, fun k hk hb => h.block k (Nat.lt_of_lt_of_le hk hn) (by simpa using hb)⟩
theorem KpO.fr {bq : Nat} {w A B : World} (h : Fr [bq] w A) (k : KpO w.heap.size bq A B) : Fr [bq] w B := ⟨k.os.trans h.os, k.tape.trans h.tape, k.output.trans h.output, Nat.le_trans h.size k.size, fun i hi hn => (k.block i hi (by simpa using hn)).trans (h.block i hi hn)⟩
theorem KpO.put {n bq : Nat} (W : World) (l : Nat) (o o' : Obj) (hn : n ≤ l) (h : W.heap[l]? = some o) : KpO n bq W (W.putObj l o') := by
  have hg := grownBy_putObj' W l o'
  have hl := (Array.getElem?_eq_some_iff.1 h).1
  exact ⟨hg.os, hg.tape, hg.output, hg.size, fun k hk _ => hg.block k (by omega) (fun e => by cases e; omega)⟩
theorem keepsFromO {B bP : Nat} {W W' : World} (hf : Fr [bP] W W') (hb : bP < B) : KeepsFrom B W W' := ⟨hf.size, fun k o hk hB _ => hf.keep hB (by simp; omega)⟩
theorem Fr.grownO {A B : World} (hf : Fr [] A B) : A.grownBy B none := ⟨hf.os, hf.tape, hf.output, hf.size, fun k hk _ => hf.block k hk (by simp)⟩

end Go.Proofs.YtahfpadaoobkfaaGreatDoor

/-
  slices.Chunk at []byte: its iterator.
-/
namespace Go.Proofs.YtahfpadaoobkfaaGreatDoor
open Go.RowKit Go.Shelf Go.Lib

attribute [local go_sem] Oper.semAt_some

theorem finTake {m k : Nat} (h : k < m) : (List.finRange m).take (k + 1) = (List.finRange m).take k ++ [⟨k, h⟩] := by
  rw [List.take_succ_eq_append_getElem (by simpa using h)]
  simp

theorem sl_tail {w : World} {g k n cap : Nat} {R : Result Next} (hn : 64 * k ≤ n) (hc : 64 * k < cap) : (if 0 ≤ 64 * (k : Int) ∧ 64 * (k : Int) ≤ (n : Int) then Result.ok (Next.value (.slice (if cap = (64 * (k : Int)).toNat then some ⟨g, 0, none⟩ else some ⟨g, (64 * (k : Int)).toNat, none⟩) (n - (64 * (k : Int)).toNat) (cap - (64 * (k : Int)).toNat))) w else R) = .ok (Next.value (.slice (some ⟨g, 64 * k, none⟩) (n - 64 * k) (cap - 64 * k))) w := by
  have e : (64 * (k : Int)).toNat = 64 * k := by omega
  rw [if_pos (by omega), e, if_neg (by omega)]

set_option maxRecDepth 100000 in
set_option maxHeartbeats 4000000 in
theorem chunk1_in (N l g cap m n bx bn : Nat) (W0 : World) (bq : Nat) (hx : W0.heap[bx]? = some (.cells #[.slice (some ⟨g, 0, none⟩) n cap] 160 (0, 0))) (hb : W0.heap[bn]? = some (.cells #[.int .i64 64] 3 (0, 0))) (hxq : bx ≠ bq) (hbq : bn ≠ bq)
    (hn1 : n ≤ 64 * m) (hn2 : 64 * m ≤ n) (hcap : n ≤ cap) (_hc : cap ≤ 9223372036854775807) (hbig : n ≤ 140737488355328)
    (J Jx : List (Fin m) → World → Prop)
    (hY : ∀ pre x W, J pre W → pre.length < m → YieldAt Fence.wide (N - 1) Tryz.prog l #[.slice (some ⟨g, 64 * x.1, none⟩) 64 64] W fun e W' =>
      (e = .returned (.bool true) ∧ J (pre ++ [x]) W' ∧ KpO W0.heap.size bq W W') ∨ (e = .returned (.bool false) ∧ Jx (pre ++ [x]) W'))
    (hJ : ∀ s A B, J s A → Fr [] A B → J s B)
    (W : World) (hW : Below W0.heap.size W0 W) (h0 : J [] W) :
    CallsIn Fence.wide N Tryz.prog 176 #[.func (.yield l) #[] #[], .pointer (some ⟨bx, 0, none⟩), .pointer (some ⟨bn, 0, none⟩)] W fun e W' => (∃ v, e = .returned v) ∧
      ((∃ ys, ys = List.finRange m ∧ J ys W') ∨ (∃ pre, pre <+: List.finRange m ∧ Jx pre W')) := by
  have HX := Lib.hid hx; have HB := Lib.hid hb
  have HY := Lib.hid hY
  have HJ := Lib.hid hJ
  have HW := Lib.hid ((Fr.of_below [] hW).mono (fp2 := [bq]) (by simp))
  have HJ0 := Lib.hid h0
  clear hx hb hY hJ hW h0
  refine callsIn_of_wp Tryz.func176 rfl trivial ?_ rfl
  simp only [Tryz.ntmps176, List.size_toArray, List.length_cons, List.length_nil, Nat.reduceAdd, Nat.reduceSub, Array.replicate_succ, Array.replicate_zero, List.push_toArray, List.append_toArray, List.nil_append, List.cons_append]
  gi_wp2
  gi_loopw [4] (fun s wr => ∃ k : Nat, k ≤ m ∧ s = .int .i64 (64 * (k : Int)) ∧ Hid (Fr [bq] W0 wr) ∧ Hid (J ((List.finRange m).take k) wr)) (fun s _ => n - (RowKit.intOf s).toNat)
  case atStart => exact ⟨0, Nat.zero_le _, rfl, HW, HJ0⟩
  case round =>
    obtain ⟨k, hk, rfl, HF, HP⟩ := hrel
    have cx := cell_of_blk (HF.out.keep HX.out (by simpa using hxq)) 0
    have cn := cell_of_blk (HF.out.keep HB.out (by simpa using hbq)) 0
    by_cases hlt : k < m
    · have hkn : 64 * k + 64 ≤ n := by omega
      gi_wp2
      refine wpIn_wide.2 ?_
      refine reg_mix (Fr [] wr) [0, 1, 2, 3, 4, 5, 6] (by kernel_rfl) (by kernel_rfl) (by kernel_rfl) rfl (Fr.drew _ _) ?_
      have FC : Fr [] wr wr.drew := Fr.drew _ _
      generalize wr.drew = WC at FC ⊢
      iterate 3 (refine mix_take1 (v := ?_) rfl rfl rfl rfl (fun w hS => ?_) ?_; rotate_left; (focus (have s0 := hS.cel cx (by simp); have s1 := hS.cel cn (by simp); clear hS; go_simp; rfl)); simp only [List.setIfInBounds_toArray, List.set_cons_succ, List.set_cons_zero])
      (refine mix_take1 (v := ?_) rfl rfl rfl rfl (fun w hS => ?_) ?_; rotate_left; (focus (clear hS; go_simp; refine sl_tail ?_ ?_ <;> omega)); simp only [List.setIfInBounds_toArray, List.set_cons_succ, List.set_cons_zero])
      (refine mix_take1 (v := ?_) rfl rfl rfl rfl (fun w hS => ?_) ?_; rotate_left; (focus (clear hS; go_simp; rfl)); simp only [List.setIfInBounds_toArray, List.set_cons_succ, List.set_cons_zero])
      (refine mix_take1 (v := ?_) rfl rfl rfl rfl (fun w hS => ?_) ?_; rotate_left; (focus (clear hS; go_simp; rw [show min (64 : Int) ((n - 64 * k : Nat) : Int) = 64 by omega])); simp only [List.setIfInBounds_toArray, List.set_cons_succ, List.set_cons_zero])
      (refine mix_take1 (v := ?_) rfl rfl rfl rfl (fun w hS => ?_) ?_; rotate_left; (focus (clear hS; go_simp; rfl)); simp only [List.setIfInBounds_toArray, List.set_cons_succ, List.set_cons_zero])
      refine mix_end ?_
      have HPC := Lib.hid (HJ.out _ _ _ HP.out FC)
      have HFC := Lib.hid (HF.out.trans (FC.mono (fp2 := [bq]) (by simp)))
      have cx := FC.cel cx (by simp)
      clear FC cn
      obtain ⟨fn, tmps, assign, body, hy, hR⟩ := HY.out _ ⟨k, hlt⟩ WC HPC.out (by rw [List.length_take, List.length_finRange]; omega)
      have HRR := Lib.hid hR
      dsimp only at hy
      clear hR
      gi_wp2
      refine ⟨fun hh => (by cases hh), ?_⟩
      refine HRR.out.mono ?_
      rintro e W3 (⟨rfl, hJ3, hk3⟩ | ⟨rfl, hJx3⟩)
      · have HF3 := Lib.hid (KpO.fr HFC.out hk3)
        have HJ3 := Lib.hid hJ3
        have cn3 := cell_of_blk (HF3.out.keep HB.out (by simpa using hbq)) 0
        clear hk3 hJ3 cx
        gi_wp2
        go_roundw
        case rel => exact ⟨k + 1, by omega, congrArg (Value.int .i64) (by omega), HF3, by rw [finTake hlt]; exact HJ3⟩
        case measure => simp [RowKit.intOf]; omega
      · gi_wp2
        refine bodyPost_ret (results_none rfl _ _ _) rfl ?_
        exact ⟨⟨_, rfl⟩, .inr ⟨_, by rw [← finTake hlt]; exact List.take_prefix _ _, hJx3⟩⟩
    · have hkm : k = m := by omega
      have HPM : Hid (J (List.finRange m) wr) := Lib.hid (by have := HP.out; rwa [List.take_of_length_le (by rw [List.length_finRange]; omega)] at this)
      have hge : ¬ (64 * (k : Int) < n) := by omega
      clear hkm
      gi_wp2
      go_end0
      exact ⟨⟨_, rfl⟩, .inl HPM.out⟩

/-- As a loop wants it. -/
theorem chunk_seq (g cap m n bx bn : Nat) (W0 : World) (bq : Nat) (hx : W0.heap[bx]? = some (.cells #[.slice (some ⟨g, 0, none⟩) n cap] 160 (0, 0))) (hb : W0.heap[bn]? = some (.cells #[.int .i64 64] 3 (0, 0))) (hxq : bx ≠ bq) (hbq : bn ≠ bq)
    (hn1 : n ≤ 64 * m) (hn2 : 64 * m ≤ n) (hcap : n ≤ cap) (hc : cap ≤ 9223372036854775807) (hbig : n ≤ 140737488355328) :
    SeqStopsK Fence.wide 2 Tryz.prog 176 #[.pointer (some ⟨bx, 0, none⟩), .pointer (some ⟨bn, 0, none⟩)] (fun x : Fin m => #[.slice (some ⟨g, 64 * x.1, none⟩) 64 64]) (KpO W0.heap.size bq) (fun ys => ys = List.finRange m) (fun pre => pre <+: List.finRange m) m W0 := by
  intro l J Jx W hW hJ _ hY h0
  refine (chunk1_in 2 l g cap m n bx bn W0 bq hx hb hxq hbq hn1 hn2 hcap hc hbig J Jx hY (fun s A B hj hf => hJ s A B none hj hf.grownO (fun r e => by cases e)) W hW h0).mono ?_
  rintro e W' ⟨he, ⟨ys, h1, h2⟩ | ⟨pre, h1, h2⟩⟩
  · exact ⟨he, .inl ⟨_, h1, h2⟩⟩
  · exact ⟨he, .inr ⟨_, h1, h2⟩⟩

set_option maxRecDepth 100000 in
theorem chunk_c (a : Option Addr) (n cap : Nat) (w : World) : Calls Tryz.prog 165 #[.slice a n cap, .int .i64 64] w fun e w' => e = .returned (.func (.func 176) #[] #[.pointer (some ⟨w.heap.size, 0, none⟩), .pointer (some ⟨w.heap.size + 1, 0, none⟩)]) ∧ w' = (w.alloc (.cells #[.slice a n cap] 160)).alloc (.cells #[.int .i64 64] 3) := by
  go_enter Tryz.func165, Tryz.ntmps165
  go_wp2_with fail
  go_ret
  exact ⟨rfl, rfl⟩

end Go.Proofs.YtahfpadaoobkfaaGreatDoor

/-
  digest: Sum of a string.
-/
namespace Go.Proofs.YtahfpadaoobkfaaGreatDoor
open Go.RowKit Go.Shelf Go.Lib

attribute [local go_sem] Oper.semAt_some

/-- The k-th block of a list of bytes. -/
def chunkL (L : List Int) (k : Nat) : List Int := (L.drop (64 * k)).take 64
theorem fold_take (L : List Int) (m : Nat) : ∀ k, k ≤ m → ((List.finRange m).take k).foldl (fun h (x : Fin m) => addB h (chunkL L x.1)) H0 = blocks L H0 k
  | 0, _ => rfl
  | k + 1, h => by
    rw [finTake (by omega : k < m), List.foldl_append, fold_take L m k (by omega)]
    rfl
theorem fold_all (L : List Int) (m : Nat) : (List.finRange m).foldl (fun h (x : Fin m) => addB h (chunkL L x.1)) H0 = blocks L H0 m := by
  have := fold_take L m m (Nat.le_refl _)
  rwa [List.take_of_length_le (by simp)] at this

structure SumAt (w : World) (B base g cap n : Nat) (l : List Int) (W : World) : Prop where
  fr : Fr [] w W
  wd : W.heap[B]? = some (.cells (w8C H0) 255 (0, 0))
  row : RowB W base g cap n l
  hs : base ≤ W.heap.size
  hb : w.heap.size ≤ base
  hB : B < base
theorem SumAt.same {w : World} {B base g cap n : Nat} {l : List Int} {W W' : World} (h : SumAt w B base g cap n l W) (hf : Fr [] W W') : SumAt w B base g cap n l W' :=
  ⟨h.fr.trans hf, hf.keep h.wd (by simp), h.row.same hf (by simp), Nat.le_trans h.hs hf.size, h.hb, h.hB⟩
theorem SumAt.app {w : World} {B base g cap n g' cap' n' : Nat} {l l' : List Int} {W W' : World} (h : SumAt w B base g cap n l W) (hr : RowB W' base g' cap' n' l') (hf : Fr [g] W W') : SumAt w B base g' cap' n' l' W' := by
  have hg := h.row.ge
  have hB := h.hB
  have hb := h.hb
  exact ⟨h.fr.step hf (fun i hi => .inr (by rw [List.mem_singleton] at hi; omega)), hf.keep h.wd (by simp; omega), hr, Nat.le_trans h.hs hf.size, h.hb, h.hB⟩
def lenV : Value → Nat
  | .slice _ n _ => n
  | _ => 0

/-- Between two rounds. -/
def SmI (W0 : World) (B m : Nat) (L : List Int) (pre : List (Fin m)) (W : World) : Prop :=
  W.heap[B]? = some (.cells (w8C (pre.foldl (fun h (x : Fin m) => addB h (chunkL L x.1)) H0)) 255 (0, 0)) ∧ Fr [B] W0 W

theorem len8_take (m : Int) {j : Nat} (hj : j < 8) : (len8 m).take (j + 1) = (len8 m).take j ++ [m / 2 ^ (8 * (7 - j)) % 256] := by
  have h : j = 0 ∨ j = 1 ∨ j = 2 ∨ j = 3 ∨ j = 4 ∨ j = 5 ∨ j = 6 ∨ j = 7 := by omega
  unfold len8 byteI
  simp only [IntKind.wrap_u8]
  rcases h with rfl | rfl | rfl | rfl | rfl | rfl | rfl | rfl <;> rfl
theorem smI_own (W0 : World) (B m : Nat) (L : List Int) (hB : B < W0.heap.size) : OwnFrom W0.heap.size (SmI W0 B m L) := by
  rintro s X Y row ⟨h1, h2⟩ hg hr
  exact ⟨(hg.block _ (blk_lt h1) (fun e => by have := (hr _ e.symm).1; omega)).trans h1, h2.step (Fr.grown (fp := row.toList) hg (fun k hk => by simp [hk])) (fun i hi => .inr (hr i (by simpa using hi)).1)⟩
theorem RowB.chunk {w : World} {base g cap n k : Nat} {l : List Int} (h : RowB w base g cap n l) (hk : 64 * k + 64 ≤ n) : ByAt w (.slice (some ⟨g, 64 * k, none⟩) 64 64) (chunkL l k) ∧ (chunkL l k).length = 64 := by
  have hl : (chunkL l k).length = 64 := by rw [chunkL, List.length_take, List.length_drop, h.len]; omega
  refine ⟨?_, hl⟩
  unfold ByAt
  rw [hl]
  refine ⟨_, _, rfl, Nat.le_refl _, by omega, fun _ => ⟨g, 64 * k, rfl, fun j u hu => h.cell ?_⟩⟩
  have hj : j < 64 := by
    have := (List.getElem?_eq_some_iff.1 hu).1
    rw [List.length_map, hl] at this; exact this
  rw [List.getElem?_map] at hu ⊢
  rwa [chunkL, List.getElem?_take_of_lt hj, List.getElem?_drop] at hu

set_option maxRecDepth 100000 in
set_option maxHeartbeats 4000000 in
theorem sum_c (s : ByteArray) (hs : s.size ≤ 1000000000000) (w : World) (hR : RndAt w) : Calls Tryz.prog 134 #[.string s] w fun e w' => e = .returned (.string (shaB s)) ∧ Fr [] w w' := by
  have HR := Lib.hid hR
  have hgl : 0 < w.heap.size := by
    obtain ⟨t, fz, h⟩ := hR
    exact blk_lt h
  clear hR
  refine (callsIn_wide (n := 3)).1 (callsIn_of_wp_marks Tryz.func134 rfl trivial ?_ rfl)
  simp only [Tryz.ntmps134, List.size_toArray, List.length_cons, List.length_nil, Nat.reduceAdd, Nat.reduceSub, Array.replicate_succ, Array.replicate_zero, List.push_toArray, List.append_toArray, List.nil_append, List.cons_append]
  refine wpIn_wide.2 ?_
  go_upto_region 2 with fail
  change Code.wp _ _ _ _ (w.alloc (.cells (w8C H0) 255))
  have hA := heap_alloc_new w (.cells (w8C H0) 255)
  have FA := Fr.alloc [] w (.cells (w8C H0) 255)
  have hsz : (w.alloc (.cells (w8C H0) 255)).heap.size = w.heap.size + 1 := by simp
  generalize w.alloc (.cells (w8C H0) 255) = W1 at *
  obtain ⟨B, hB⟩ : ∃ B, B = w.heap.size := ⟨_, rfl⟩
  rw [← hB] at hA ⊢
  have HS1 : Shut (W1.heap.size = B + 1 ∧ B = w.heap.size) := ⟨by omega, hB⟩
  have hBl : w.heap.size ≤ B := by omega
  have hBu : B ≤ w.heap.size := by omega
  have HA := Lib.hid hA; have HF := Lib.hid FA
  clear hA FA hsz hB
  go_wp2_with (first | ((with_reducible refine wpList_of_wp (o := ⟨some 9, _, _, _, _, _⟩) rfl (fun K hK => ?_)); apply stopD; case _other => exact trivial))
  (refine stopD ?_ ?_; rotate_left; exact trivial)
  refine wp_str_bytes (.tmp 8) rfl s rfl (by omega) (B + 1) (Nat.le_of_eq HS1.out.1.symm) ?_
  intro g cap W2 r2 f2
  refine hK _ _ ?_
  clear hK K
  have S2 : SumAt w B (B + 1) g cap s.size (bI s.data.toList) W2 := ⟨HF.out.trans f2, f2.keep HA.out (by simp), r2, Nat.le_trans (Nat.le_of_eq HS1.out.1.symm) f2.size, by omega, by omega⟩
  have HS2 := Lib.hid S2
  clear r2 f2 S2 HA HF
  go_wp2_with (first | ((with_reducible refine wpList_of_wp (o := ⟨some 11, _, _, _, _, _⟩) rfl (fun K hK => ?_)); apply stopD; case _other => exact trivial))
  (refine stopD ?_ ?_; rotate_left; exact trivial)
  have S3 := HS2.out.same (Fr.alloc [] W2 (.cells #[.int .u8 128] 5))
  refine wp_append_b (.tmp 9) (.tmp 10) rfl (B + 1) g cap s.size _ 128 rfl S3.row S3.hs W2.heap.size 1 rfl (cell_of_blk (heap_alloc_new W2 (.cells #[.int .u8 128] 5)) 0) (by omega) ?_
  intro g4 cap4 W4 r4 f4
  refine hK _ _ ?_
  clear hK K
  have HS4 := Lib.hid (S3.app r4 f4)
  clear S3 r4 f4 HS2
  go_wp2_with fail
  go_loopw [4] (fun v wr => ∃ k g cap, k ≤ zN s.size ∧ v = .slice (some ⟨g, 0, none⟩) (s.size + 1 + k) cap ∧ Hid (SumAt w B (B + 1) g cap (s.size + 1 + k) ((bI s.data.toList ++ [128]) ++ List.replicate k 0) wr)) (fun v _ => s.size + 100 - lenV v)
  case atStart => exact ⟨0, g4, cap4, Nat.zero_le _, rfl, by rw [List.replicate_zero, List.append_nil]; exact HS4⟩
  case round =>
    obtain ⟨k, g5, cap5, hk, rfl, H5⟩ := hrel
    have hz : zN s.size < 64 := Nat.mod_lt _ (by omega)
    by_cases hlt : k < zN s.size
    · have hmod : (s.size + 1 + k) % 64 ≠ 56 := by unfold zN at hlt; omega
      go_wp2_with (first | ((with_reducible refine wpList_of_wp (o := ⟨some 18, _, _, _, _, _⟩) rfl (fun K hK => ?_)); apply stopD; case _other => exact trivial))
      (refine stopD ?_ ?_; rotate_left; exact trivial)
      have S6 := H5.out.same (Fr.alloc [] wr (.cells #[.int .u8 0] 5))
      refine wp_append_b (.tmp 16) (.tmp 17) rfl (B + 1) g5 cap5 (s.size + 1 + k) _ 0 rfl S6.row S6.hs wr.heap.size 1 rfl (cell_of_blk (heap_alloc_new wr (.cells #[.int .u8 0] 5)) 0) (by omega) ?_
      intro g6 cap6 W6 r6 f6
      refine hK _ _ ?_
      clear hK K
      have HS6 := Lib.hid (S6.app r6 f6)
      clear S6 r6 f6
      go_wp2_with fail
      go_roundw
      case rel => exact ⟨k + 1, g6, cap6, by omega, rfl, by rw [List.replicate_succ', ← List.append_assoc]; exact HS6⟩
      case measure => simp [lenV]; omega
    · have hm1 : (s.size + 1 + k) % 64 ≤ 56 := by unfold zN at *; omega
      have hm2 : 56 ≤ (s.size + 1 + k) % 64 := by unfold zN at *; omega
      have e1 : (bI s.data.toList ++ [128]) ++ List.replicate k 0 = pad1 (bI s.data.toList) := by
        rw [pad1, bI_len, show k = zN s.size by omega]; rfl
      rw [e1] at H5
      have hbf : (((s.size : Int) + 1 + (k : Int)) % 64 != 56) = false := by
        have : ((s.size : Int) + 1 + (k : Int)) % 64 = 56 := by omega
        rw [this]; rfl
      clear e1
      go_wp2_with fail
      clear hbf
      -- @@2
      go_loopw [4, 5] (fun v i wr => ∃ j g cap, j ≤ 8 ∧ v = .slice (some ⟨g, 0, none⟩) (s.size + 1 + k + j) cap ∧ i = .int .i64 (7 - (j : Int)) ∧ Hid (SumAt w B (B + 1) g cap (s.size + 1 + k + j) (pad1 (bI s.data.toList) ++ (len8 (8 * (s.size : Int))).take j) wr)) (fun _ i _ => (RowKit.intOf i + 1).toNat)
      case atStart => exact ⟨0, g5, cap5, Nat.zero_le _, rfl, rfl, by rw [List.take_zero, List.append_nil]; exact H5⟩
      case round =>
        obtain ⟨j, g7, cap7, hj, rfl, rfl, H7⟩ := hrel
        by_cases hj8 : j < 8
        · have hm : min (8 * (7 - (j : Int))).toNat 64 = 56 - 8 * j := by omega
          go_wp2_with (first | ((with_reducible refine wpList_of_wp (o := ⟨some 32, _, _, _, _, _⟩) rfl (fun K hK => ?_)); apply stopD; case _other => exact trivial))
          (refine stopD ?_ ?_; rotate_left; exact trivial)
          have S8 := H7.out.same (Fr.alloc [] wr (.cells #[.int .u8 (8 * (s.size : Int) / 2 ^ (8 * (7 - j)) % 256)] 5))
          refine wp_append_b (.tmp 23) (.tmp 31) rfl (B + 1) g7 cap7 (s.size + 1 + k + j) _ (8 * (s.size : Int) / 2 ^ (8 * (7 - j)) % 256) rfl S8.row S8.hs wr.heap.size 1 rfl (cell_of_blk (heap_alloc_new wr (.cells #[.int .u8 (8 * (s.size : Int) / 2 ^ (8 * (7 - j)) % 256)] 5)) 0) (by omega) ?_
          intro g8 cap8 W8 r8 f8
          refine hK _ _ ?_
          clear hK K hm
          rw [List.append_assoc, ← len8_take _ hj8] at r8
          have HS8 := Lib.hid (S8.app r8 f8)
          clear S8 r8 f8
          go_wp2_with fail
          go_roundw
          case rel => exact ⟨j + 1, g8, cap8, by omega, rfl, congrArg (Value.int .i64) (by omega), HS8⟩
          case measure => simp [RowKit.intOf]; omega
        · have e2 : pad1 (bI s.data.toList) ++ (len8 (8 * (s.size : Int))).take j = padL (bI s.data.toList) := by
            rw [List.take_of_length_le (by simp [len8]; omega), padL, bI_len]; rfl
          rw [e2] at H7
          have hpl := H7.out.row.len
          obtain ⟨n', hn'⟩ : ∃ n', s.size + 1 + k + j = n' := ⟨_, rfl⟩
          have h64 : n' ≤ 64 * (n' / 64) := by omega
          have h65 : 64 * (n' / 64) ≤ n' := by omega
          have hj9 : ¬ (0 ≤ 7 - (j : Int)) := by omega
          have hnb : n' ≤ 140737488355328 := by omega
          obtain ⟨m, hm⟩ : ∃ m, n' / 64 = m := ⟨_, rfl⟩
          rw [hn'] at H7 hpl ⊢
          rw [hm] at h64 h65
          have HM : Shut (shaB s = digB (blocks (padL (bI s.data.toList)) H0 m)) := ⟨by unfold shaB shaL digB; rw [hpl, hm]⟩
          generalize padL (bI s.data.toList) = PL at *
          clear hn' hm e2 hpl hm1 hm2 H5 HS4
          go_wp2_with fail
          refine (chunk_c _ _ _ _).mono ?_
          rintro e W8 ⟨rfl, hW8⟩
          have FY : Fr [] wr W8 := by rw [hW8]; exact (Fr.alloc _ _ _).trans (Fr.alloc _ _ _)
          have hx8 : W8.heap[wr.heap.size]? = some (.cells #[.slice (some ⟨g7, 0, none⟩) n' cap7] 160 (0, 0)) := by rw [hW8]; exact heap_alloc_old _ (heap_alloc_new _ _)
          have hn8 : W8.heap[wr.heap.size + 1]? = some (.cells #[.int .i64 64] 3 (0, 0)) := by
            rw [hW8]
            have := heap_alloc_new (wr.alloc (.cells #[.slice (some ⟨g7, 0, none⟩) n' cap7] 160)) (.cells #[.int .i64 64] 3)
            simpa using this
          have hBq : B < wr.heap.size := by have := H7.out.hs; omega
          have H8 := Lib.hid (H7.out.same FY)
          have hB8 : B < W8.heap.size := Nat.lt_of_lt_of_le hBq FY.size
          have HX8 := Lib.hid hx8; have HN8 := Lib.hid hn8
          clear hW8 FY hx8 hn8 H7
          go_wp2_with fail
          refine (wpIn_wide (n := 3)).1 ?_
          apply wpIn_rangeFunc_ownG (F := Fence.wide) (n := 3) rfl (by omega) (gf := 176) (lb := #[.pointer (some ⟨wr.heap.size, 0, none⟩), .pointer (some ⟨wr.heap.size + 1, 0, none⟩)]) rfl trivial (fun _ _ => rfl)
            (chunk_seq g7 cap7 m n' wr.heap.size (wr.heap.size + 1) W8 B HX8.out HN8.out (by omega) (by omega) h64 h65 H8.out.row.le H8.out.row.max hnb) KpO.trans (fun W l o o' hl h _ _ => KpO.put W l o o' hl h) (Below.refl _ _) (fun _ => rfl)
            (SmI W8 B m PL) (fun _ _ _ => False) (smI_own W8 B m PL hB8) (fun _ _ _ _ _ h _ _ => h) ⟨H8.out.wd, Fr.refl _ _⟩
          -- @@3
          case hassign =>
            intro l x W K hK
            gi_wp2
            exact hK
          case hbody =>
            rintro l pre x W ⟨h1, hF⟩ hlt
            have CA := addW_c B _ _ _ W h1 (H8.out.row.same hF (by simp; have := H8.out.row.ge; omega) |>.chunk (k := x.1) (by have := x.2; omega)).1 (H8.out.row.chunk (k := x.1) (by have := x.2; omega)).2 ((HR.out.same H8.out.fr (by simp)).same hF (by simp; omega)) (by omega)
            have HCA := Lib.hid CA
            clear CA h1
            gi_wp2
            refine ⟨trivial, ?_⟩
            refine CallsIn.inRound l (callsIn_wide.2 (HCA.out.mono ?_))
            rintro e W' ⟨rfl, f1, h2⟩
            have HN : Hid (KeepsFrom W8.heap.size W W' ∧ KpO W8.heap.size B W W' ∧ SmI W8 B m PL (pre ++ [x]) W') := Lib.hid ⟨keepsFromO f1 hB8, KpO.of f1 hF.size, by rw [List.foldl_append]; exact h2, hF.trans f1⟩
            clear f1 h2 hF HCA
            gi_wp2
            exact HN.out
          case hdone =>
            rintro D ys W hD hS ⟨h1, hF⟩ hK
            have hS' : ys = List.finRange m := hS
            subst hS'
            rw [fold_all] at h1
            generalize blocks PL H0 m = v at *
            have d0 : W.cell? ⟨B, 0, none⟩ = some (.int .u32 v.a) := cell_of_blk h1 0
            have d1 : W.cell? ⟨B, 1, none⟩ = some (.int .u32 v.b) := cell_of_blk h1 1
            have d2 : W.cell? ⟨B, 2, none⟩ = some (.int .u32 v.c) := cell_of_blk h1 2
            have d3 : W.cell? ⟨B, 3, none⟩ = some (.int .u32 v.d) := cell_of_blk h1 3
            have d4 : W.cell? ⟨B, 4, none⟩ = some (.int .u32 v.e) := cell_of_blk h1 4
            have d5 : W.cell? ⟨B, 5, none⟩ = some (.int .u32 v.f) := cell_of_blk h1 5
            have d6 : W.cell? ⟨B, 6, none⟩ = some (.int .u32 v.g) := cell_of_blk h1 6
            have d7 : W.cell? ⟨B, 7, none⟩ = some (.int .u32 v.h) := cell_of_blk h1 7
            have hwD : w.heap.size ≤ D := Nat.le_trans H8.out.fr.size hD
            have HFW := Lib.hid (H8.out.fr.step hF (fun i hi => .inr (by rw [List.mem_singleton] at hi; omega)))
            have HKE := Lib.hid hK
            clear h1 hF hK hS
            go_wp2_with fail
            refine (digest_c v W).mono ?_
            rintro e W9 ⟨rfl, f9⟩
            have hK9 := f9.keep HKE.out (by simp)
            have FQ := (HFW.out.trans f9).step (Fr.grown (fp := [D]) (grownBy_putObj' W9 D (.deferred none)) (fun k hk => by cases hk; simp)) (fun i hi => .inr (by rw [List.mem_singleton] at hi; omega))
            have HQ := Lib.hid FQ; have HK9 := Lib.hid hK9
            clear d0 d1 d2 d3 d4 d5 d6 d7 f9 hK9 FQ
            go_wp2_with fail
            refine ⟨by simp, .inl ⟨_, _, rfl, run_takeDeferred HK9.out, ?_⟩⟩
            exact ⟨_, results_tmp rfl _ _ _, by rw [HM.out]; rfl, HQ.out⟩
          case hstop =>
            rintro D c pre W _ _ h _
            exact h.elim

end Go.Proofs.YtahfpadaoobkfaaGreatDoor

/-
  A range over a function whose iterator writes a variable of its own; a body that is never left early.
-/
namespace Go.Proofs.YtahfpadaoobkfaaGreatDoor
open Go.RowKit Go.Shelf Go.Lib

/-- The word of an iterator that changes block bx alone. -/
def SeqW {α : Type} (F : Fence) (n : Nat) (P : Program) (g : Nat) (lb : Array Value) (encs : α → Array Value) (Kp : World → World → Prop) (S : List α → Prop) (N bx : Nat) (w : World) : Prop :=
  ∀ (l : Nat) (J : List α → World → Prop) (W : World), Fr [] w W → (∀ s X Y, J s X → Fr [bx] X Y → J s Y) →
    (∀ pre x W1, J pre W1 → pre.length < N → YieldAt F (n - 1) P l (encs x) W1 fun e W' => e = .returned (.bool true) ∧ J (pre ++ [x]) W' ∧ Kp W1 W') →
    J [] W → CallsIn F n P g (#[.func (.yield l) #[] #[]] ++ lb) W fun e W' => (∃ v, e = .returned v) ∧ ∃ xs, S xs ∧ J xs W'
/-- Behind a round. -/
def postW {α : Type} (B : Nat) (Kp : World → World → Prop) (I : List α → World → Prop) (xs : List α) (W : World) : Exit → Act → World → Prop
  | .normal, _, W' => KeepsFrom B W W' ∧ Kp W W' ∧ I xs W'
  | _, _, _ => False

set_option maxHeartbeats 4000000 in
theorem range_wr {F : Fence} {n : Nat} {P : Program} {α : Type} {g : Operand} {ps : Array Tmp} {assign body : Code} {Q : Exit → Act → World → Prop} {a : Act} {w : World} (hro : F.round = none) (h1 : 1 ≤ n)
    {gf : Nat} {lb : Array Value} (hg : a.eval g = .func (.func gf) #[] lb) (hFg : F.fn gf) (eg : ∀ args w, (callFunc gf args).run P w = .ok (.enter gf args) w)
    {encs : α → Array Value} {Kp : World → World → Prop} {S : List α → Prop} {N bx : Nat} (hbx : bx < w.heap.size) (hseq : SeqW F (n - 1) P gf lb encs Kp S N bx w) (hKt : ∀ {A B C : World}, Kp A B → Kp B C → Kp A C)
    (hKb : ∀ (W : World) (l : Nat) (o o' : Obj), w.heap.size ≤ l → W.heap[l]? = some o → Kp W (W.putObj l o')) (hps : ∀ x, (encs x).size = ps.size)
    (I : List α → World → Prop) (hI : ∀ s X Y, I s X → Fr [bx] X Y → I s Y) (hO : OwnFrom w.heap.size I) (h0 : I [] w) (a₁ : α → Act)
    (hassign : ∀ (l : Nat) (x : α) (W : World) (K : Act → World → Prop), K (a₁ x) W → assign.wpIn (F.inRound l) (n - 1 - 1) P (Exit.then K (fun _ _ _ => False)) { tmps := (ps.zip (encs x)).foldl (fun t (p, v) => t.setIfInBounds p v) a.tmps, defers := [] } W)
    (hbody : ∀ (l : Nat) (pre : List α) (x : α) (W : World), I pre W → pre.length < N → body.wpIn (F.inRound l) (n - 1 - 1) P (postW w.heap.size Kp I (pre ++ [x]) W) (a₁ x) W)
    (hdone : ∀ (D : Nat) (xs : List α) (W : World), w.heap.size ≤ D → S xs → I xs W → W.heap[D]? = some (.deferred (some [])) → Q .normal { a with defers := { target := .collected D, args := #[] } :: a.defers } W) :
    (Code.rangeFunc g ps assign body).wpIn F n P Q a w := by
  refine wpIn_rangeFunc fun fn hfn => ?_
  rw [hro]
  obtain ⟨R, hR⟩ : ∃ R : LoopState → Loop, ∀ st, R st = { state := st, pending := none, fn := fn, tmps := a.tmps, params := ps, assign := assign, body := body, defers := w.heap.size } := ⟨fun st => { state := st, pending := none, fn := fn, tmps := a.tmps, params := ps, assign := assign, body := body, defers := w.heap.size }, fun _ => rfl⟩
  obtain ⟨W1, hW1⟩ : ∃ W1, W1 = (w.alloc (.deferred (some []))).alloc (.loop (R .ready)) := ⟨_, rfl⟩
  have he : (Instr.enterLoop fn a.tmps ps assign body none).run P w = .ok (w.heap.size + 1, [{ target := .collected w.heap.size, args := #[] }]) W1 := by
    rw [hW1, hR]; exact run_enterLoop_outer _ _ _ _ _
  -- the two blocks of the loop's book-keeping
  have key : CallsIn F (n - 1) P gf (#[.func (.yield (w.heap.size + 1)) #[] #[]] ++ lb) W1 (rangePost F n P (w.heap.size + 1) Q { a with defers := [{ target := .collected w.heap.size, args := #[] }] ++ a.defers }) := by
    have fr : Fr [] w W1 := by rw [hW1]; exact (Fr.alloc _ _ _).trans (Fr.alloc _ _ _)
    have bD : W1.heap[w.heap.size]? = some (.deferred (some [])) := by rw [hW1]; exact heap_alloc_old _ (heap_alloc_new w _)
    have bL : W1.heap[w.heap.size + 1]? = some (.loop (R .ready)) := by
      have := heap_alloc_new (w.alloc (.deferred (some []))) (.loop (R .ready))
      rw [World.size_alloc] at this
      rw [hW1]; exact this
    have i1 : I [] W1 := by rw [hW1]; exact hO.alloc _ (hO.alloc _ h0)
    refine (hseq (w.heap.size + 1) (fun xs W => I xs W ∧ W.heap[w.heap.size + 1]? = some (.loop (R .ready)) ∧ W.heap[w.heap.size]? = some (.deferred (some []))) W1 fr ?_ ?_ ⟨i1, bL, bD⟩).mono ?_
    · rintro s X Y ⟨hi, hl, hd⟩ hf
      exact ⟨hI s X Y hi hf, hf.keep hl (by simp; omega), hf.keep hd (by simp; omega)⟩
    · rintro pre x W ⟨hi, hl, hd⟩ hN
      refine ⟨fn, (ps.zip (encs x)).foldl (fun t (p, v) => t.setIfInBounds p v) a.tmps, assign, body, ?_, roundIn_of_wpIn hfn (hassign _ x W _ ⟨W.putObj (w.heap.size + 1) (.loop (R .busy)), ?_, ?_⟩)⟩
      · have := run_yield (P := P) (args := encs x) hl (by rw [hR]; exact hps x)
        rw [hR] at this
        exact this
      · have := run_beginRound (P := P) hl (by rw [hR])
        rw [hR] at this
        rw [hR]
        exact this
      · have hlt := blk_lt hl
        have hl2 : (W.putObj (w.heap.size + 1) (.loop (R .busy))).heap[w.heap.size + 1]? = some (.loop (R .busy)) := World.putObj_heap_same hlt
        have hd2 : (W.putObj (w.heap.size + 1) (.loop (R .busy))).heap[w.heap.size]? = some (.deferred (some [])) := (World.putObj_heap_other (by omega)).trans hd
        have k1 : Kp W (W.putObj (w.heap.size + 1) (.loop (R .busy))) := hKb _ _ _ _ (by omega) hl
        have i2 := hO.putObj (.loop (R .busy)) hi (by omega) hl rfl
        refine wpIn_mono (hbody _ pre x _ i2 hN) fun e a3 W3 hp => ?_
        cases e with
        | normal =>
          obtain ⟨kf, kp, i3⟩ := hp
          have l3 := kf.same _ _ (by omega) hl2 rfl
          have d3 := kf.same _ _ (Nat.le_refl _) hd2 rfl
          refine ⟨_, _, run_endRound (P := P) none l3, rfl, ⟨hO.putObj _ i3 (by omega) l3 rfl, ?_, (World.putObj_heap_other (by omega)).trans d3⟩, hKt (hKt k1 kp) (hKb _ _ _ _ (by omega) l3)⟩
          refine (World.putObj_heap_same (blk_lt l3)).trans ?_
          rw [hR, hR]
          rfl
        | ret => exact hp.elim
        | exit id => exact hp.elim
        | goto t => exact hp.elim
        | panic ch => exact hp.elim
        | outgrown => exact hp.elim
    · rintro e W2 ⟨⟨v, rfl⟩, xs, hS, hi, hl, hd⟩
      have := run_endLoop (P := P) hl (by rw [hR]; simp)
      rw [show (R .ready).pending = none by rw [hR]] at this
      exact ⟨none, _, this, hdone _ xs _ (Nat.le_refl _) hS (hO.putObj _ hi (by omega) hl rfl) ((World.putObj_heap_other (by omega)).trans hd)⟩
  refine ⟨w.heap.size + 1, [{ target := .collected w.heap.size, args := #[] }], W1, { target := .fn (.func gf) lb, args := #[.func (.yield (w.heap.size + 1)) #[] #[]] }, W1, gf, #[.func (.yield (w.heap.size + 1)) #[] #[]] ++ lb, W1, ?_, ?_, ?_, ?_, fun _ => h1, ?_⟩
  · exact he
  · simp only [resolve, hg]
    simp [go_sem]
  · intro f' hf'
    simp [Target.leads] at hf'
    subst hf'
    exact hFg
  · simp [invoke, go_sem, eg]
  · exact key

end Go.Proofs.YtahfpadaoobkfaaGreatDoor
