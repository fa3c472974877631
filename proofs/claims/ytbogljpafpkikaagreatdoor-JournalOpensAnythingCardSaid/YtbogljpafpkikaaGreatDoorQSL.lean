/-
  The library's slices.Values, slices.AppendSeq, slices.Collect at []int: what each does. (After the guide's worked texts on a range over a function.)
-/
import Derived.RangeFuncBox
import Derived.RangeFuncLeaves
import Derived.Shelf.Abstract
import Derived.WalkKit
import Derived.OwnWalkIn
import Derived.TacticsInMore
import Derived.LoopNIn
import Derived.LoopIn
import Derived.Maps.AppendAt
import Derived.Test.YtbogljpafpkikaaGreatDoorRows
import Derived.Test.YtbogljpafpkikaaGreatDoorQDW
import Derived.Test.YtbogljpafpkikaaGreatDoorShelf
import Derived.Sort.OwnSortedInts
import Derived.Lib.RowBridge
namespace Go.Proofs.YtbogljpafpkikaaGreatDoor
open Go.RowKit Go.Shelf

attribute [local go_sem] Oper.semAt_some

/-- What has come when k rounds are over. -/
def upto {α : Type} (f : Nat → α) (k : Nat) : List α := (List.range k).map f
theorem upto_succ {α : Type} (f : Nat → α) (k : Nat) : upto f (k + 1) = upto f k ++ [f k] := by simp [upto, List.range_succ]
theorem upto_length {α : Type} (f : Nat → α) (k : Nat) : (upto f k).length = k := by simp [upto]
theorem upto_all (zs : List Int) : upto (fun j => zs[j]?.getD 0) zs.length = zs := by
  apply List.ext_getElem
  · simp [upto]
  · intro i h1 h2
    simp [upto, h2]
theorem upto_take (zs : List Int) {k : Nat} (hk : k ≤ zs.length) : upto (fun j => zs[j]?.getD 0) k = zs.take k := by
  apply List.ext_getElem
  · simp [upto, hk]
  · intro i h1 h2
    have : i < zs.length := by simp [upto] at h1; omega
    simp [upto, this]

set_option maxRecDepth 100000 in
set_option maxHeartbeats 2000000 in
theorem values1_in (F : Fence) (n : Nat) (h7 : F.fn 102) (hro : F.round = none) (hn : 1 ≤ n) (l Bs n₀ b off len cap : Nat) (zs : List Int) (hreach : len * 8 ≤ 140737488351232) (hb : b < n₀) (J Jx : List Int → World → Prop)
    (hY : ∀ pre x W, J pre W → pre.length < len → YieldAt F (n - 1) Tryz.prog l #[.int .i64 x] W fun e W' =>
      (e = .returned (.bool true) ∧ J (pre ++ [x]) W' ∧ Below n₀ W W') ∨ (e = .returned (.bool false) ∧ Jx (pre ++ [x]) W'))
    (W : World) (hBs : W.cell? ⟨Bs, 0, none⟩ = some (.slice (some ⟨b, off, none⟩) len cap)) (hc : ∀ j, j < len → W.cell? ⟨b, off + j, none⟩ = some (.int .i64 (zs[j]?.getD 0))) (h0 : J [] W) :
    CallsIn F n Tryz.prog 102 #[.func (.yield l) #[] #[], .pointer (some ⟨Bs, 0, none⟩)] W fun e W' => (∃ v, e = .returned v) ∧
      ((∃ ys, ys = upto (fun j => zs[j]?.getD 0) len ∧ J ys W') ∨ (∃ pre, (∃ k, k ≤ len ∧ pre = upto (fun j => zs[j]?.getD 0) k) ∧ Jx pre W')) := by
  refine callsIn_of_wp Tryz.func102 rfl h7 ?_ hro
  simp only [Tryz.ntmps102, List.size_toArray, List.length_cons, List.length_nil, Nat.reduceAdd, Nat.reduceSub, Array.replicate_succ, Array.replicate_zero, List.push_toArray, List.append_toArray, List.nil_append, List.cons_append]
  gi_wp2
  gi_loopw [7] (fun i wr => ∃ k : Nat, k ≤ len ∧ i = .int .i64 k ∧ J (upto (fun j => zs[j]?.getD 0) k) wr ∧ Below n₀ W wr)
    (fun i _ => len - (intOf i).toNat)
  case atStart => exact ⟨0, Nat.zero_le _, rfl, h0, Below.refl _ _⟩
  case round =>
    obtain ⟨k, hk, rfl, hJs, hnx⟩ := hrel
    have hcx : k < len → wr.cell? ⟨b, off + k, none⟩ = some (.int .i64 (zs[k]?.getD 0)) := fun h => (hnx.cell (p := ⟨b, off + k, none⟩) hb).trans (hc k h)
    by_cases hlt : k < len
    · obtain ⟨fn, tmps, assign, body, hy, hR⟩ := hY _ (zs[k]?.getD 0) wr hJs (by rw [upto_length]; exact hlt)
      have hcx' := hcx hlt
      gi_wp2
      refine hR.mono ?_
      rintro e W3 (⟨rfl, hJ3, hk3⟩ | ⟨rfl, hJx3⟩)
      · gi_wp2
        go_roundw
        case rel => exact ⟨k + 1, by omega, by simp, by rw [upto_succ]; exact hJ3, hnx.trans hk3⟩
        case measure => simp [intOf]; omega
      · gi_wp2
        refine bodyPost_ret (results_none rfl _ _ _) rfl ?_
        exact ⟨⟨_, rfl⟩, .inr ⟨_, ⟨k + 1, by omega, (upto_succ _ _).symm⟩, hJx3⟩⟩
    · obtain rfl : k = len := by omega
      gi_wp2
      go_end0
      exact ⟨⟨_, rfl⟩, .inl ⟨_, rfl, hJs⟩⟩

/-- The slice value sv holds the ints zs, in a block below n₀; or it has no element. -/
def IntsB (n₀ : Nat) (W : World) (sv : Value) (zs : List Int) : Prop :=
  (zs = [] ∧ ∃ a cap, sv = .slice a 0 cap) ∨ ∃ b off cap, sv = .slice (some ⟨b, off, none⟩) zs.length cap ∧ b < n₀ ∧ ∀ j, j < zs.length → W.cell? ⟨b, off + j, none⟩ = some (.int .i64 (zs[j]?.getD 0))
theorem IntsB.below {n₀ : Nat} {A B : World} (h : Below n₀ A B) {sv : Value} {zs : List Int} : IntsB n₀ A sv zs → IntsB n₀ B sv zs
  | .inl e => .inl e
  | .inr ⟨b, off, cap, e, hb, hc⟩ => .inr ⟨b, off, cap, e, hb, fun j hj => (h.cell (p := ⟨b, off + j, none⟩) hb).trans (hc j hj)⟩

set_option maxRecDepth 100000 in
set_option maxHeartbeats 1000000 in
theorem values1_nil_in (F : Fence) (n : Nat) (h7 : F.fn 102) (hro : F.round = none) (l Bs : Nat) (a : Option Addr) (cap : Nat) (J : List Int → World → Prop) (W : World) (hBs : W.cell? ⟨Bs, 0, none⟩ = some (.slice a 0 cap)) (h0 : J [] W) :
    CallsIn F n Tryz.prog 102 #[.func (.yield l) #[] #[], .pointer (some ⟨Bs, 0, none⟩)] W fun e W' => (∃ v, e = .returned v) ∧ J [] W' := by
  refine callsIn_of_wp Tryz.func102 rfl h7 ?_ hro
  simp only [Tryz.ntmps102, List.size_toArray, List.length_cons, List.length_nil, Nat.reduceAdd, Nat.reduceSub, Array.replicate_succ, Array.replicate_zero, List.push_toArray, List.append_toArray, List.nil_append, List.cons_append]
  gi_wp2
  gi_loopw [7] (fun i wr => i = .int .i64 0 ∧ J [] wr) (fun _ _ => 0)
  case atStart => exact ⟨rfl, h0⟩
  case round =>
    obtain ⟨rfl, hJs⟩ := hrel
    gi_wp2
    go_end0
    exact ⟨⟨_, rfl⟩, hJs⟩

set_option maxHeartbeats 1000000 in
theorem values_c (a : Option Addr) (len cap : Nat) (w : World) :
    Calls Tryz.prog 84 #[.slice a len cap] w fun e w' => e = .returned (.func (.func 102) #[] #[.pointer (some ⟨w.heap.size, 0, none⟩)]) ∧ w.alloc (.cells #[.slice a len cap] 58) = w' := by
  go_enter Tryz.func84, Tryz.ntmps84
  go_wp2
  go_ret
  exact ⟨rfl, rfl⟩

theorem values_stops (F : Fence) (n : Nat) (h7 : F.fn 102) (hro : F.round = none) (hn : 1 ≤ n) (Bs n₀ : Nat) (sv : Value) (zs : List Int) (hreach : zs.length * 8 ≤ 140737488351232) (w : World) (hBs : Bs < w.heap.size) (hn₀ : n₀ ≤ w.heap.size)
    (hc : w.cell? ⟨Bs, 0, none⟩ = some sv) (hI : IntsB n₀ w sv zs) :
    SeqStopsK F n Tryz.prog 102 #[.pointer (some ⟨Bs, 0, none⟩)] (fun x : Int => #[Value.int .i64 x]) (Below n₀) (fun ys => ys = zs) (fun pre => pre <+: zs) zs.length w := fun l J Jx W hW _ _ hY h0 => by
  have hc' := (hW.cell (p := ⟨Bs, 0, none⟩) hBs).trans hc
  rcases hI.below (hW.mono hn₀) with ⟨rfl, a, cap, rfl⟩ | ⟨b, off, cap, rfl, hb, hcs⟩
  · exact (values1_nil_in F n h7 hro l Bs a cap J W hc' h0).mono fun e W' ⟨he, hj⟩ => ⟨he, .inl ⟨_, rfl, hj⟩⟩
  · refine (values1_in F n h7 hro hn l Bs n₀ b off zs.length cap zs hreach hb J Jx hY W hc' hcs h0).mono ?_
    rintro e W' ⟨he, ⟨ys, rfl, hj⟩ | ⟨pre, ⟨k, hk, rfl⟩, hj⟩⟩
    · exact ⟨he, .inl ⟨_, upto_all zs, hj⟩⟩
    · exact ⟨he, .inr ⟨_, by rw [upto_take zs hk]; exact List.take_prefix _ _, hj⟩⟩

theorem infoI : (Tryz.prog.info? 3).map (fun i => (i.zero, i.size, i.bytes)) = some (some (.int .i64 0), 1, 8) := by kernel_rfl

set_option maxRecDepth 100000 in
set_option maxHeartbeats 2000000 in
/-- slices.AppendSeq onto nil, against an iterator that reads memory. -/
theorem appendSeq_in (F : Fence) (n : Nat) (h11 : F.fn 112) (hro : F.round = none) (hn : 2 ≤ n) (g : Nat) (lb : Array Value) (hFg : F.fn g) (eg : ∀ args w, (callFunc g args).run Tryz.prog w = .ok (.enter g args) w)
    (zs : List Int) (n₀ : Nat) (hlen : zs.length ≤ maxLen) (hbytes : zs.length * 8 ≤ 140737488355328) (w : World) (hn₀ : n₀ ≤ w.heap.size)
    (hseq : SeqStopsK F (n - 1) Tryz.prog g lb (fun x : Int => #[Value.int .i64 x]) (Below n₀) (fun ys => ys = zs) (fun pre => pre <+: zs) zs.length w) :
    CallsIn F n Tryz.prog 112 #[.slice none 0 0, .func (.func g) #[] lb] w fun e W' => ∃ v, e = .returned v ∧ W'.ownsRow w.heap.size 3 1 v zs.length (zs.map (Value.int .i64)) ∧ (v = .slice none 0 0 ↔ zs = []) ∧ Below w.heap.size w W' := by
  have h1 : 1 ≤ n := by omega
  obtain ⟨i0, hi, hz0, hz1, hz2⟩ := info_parts infoI
  refine callsIn_of_wp_marks Tryz.func112 rfl h11 ?_ hro
  simp only [Tryz.ntmps112, List.size_toArray, List.length_cons, List.length_nil, Nat.reduceAdd, Nat.reduceSub, Array.replicate_succ, Array.replicate_zero, List.push_toArray, List.append_toArray, List.nil_append, List.cons_append]
  gi_wp2
  have bO := Boxed.new w 58 (.slice none 0 0)
  have hB0 : Below w.heap.size w (w.alloc (.cells #[.slice none 0 0] 58)) := (Below.refl _ w).alloc (Nat.le_refl _) _
  refine wpIn_rangeFunc_ownG hro h1 (gf := g) (lb := lb) rfl hFg eg
    hseq belowK_t (belowK_b (by simp; omega)) hB0 (fun _ => rfl)
    (fun pre W => (∃ v, Boxed W w.heap.size 58 v ∧ W.ownsRow w.heap.size 3 1 v pre.length (pre.map (Value.int .i64)) ∧ (v = .slice none 0 0 ↔ pre = [])) ∧ Below w.heap.size w W)
    (fun _ _ _ => False)
    (OwnFrom.and (Own.from (holdsRow_own w.heap.size w.heap.size 58 3 1 (fun pre => pre.length) (fun pre => pre.map (Value.int .i64)) (fun pre v => v = .slice none 0 0 ↔ pre = [])) _) (ownFrom_below (Nat.le_refl _) (by simp)))
    (fun _ _ _ _ _ hs _ _ => hs)
    ⟨⟨_, bO, World.ownsRow_nil _ _ _ _, by simp⟩, hB0⟩
    (fun x => { tmps := #[.slice none 0 0, .func (.func g) #[] lb, .pointer (some ⟨w.heap.size, 0, none⟩), undef, .slice none 0 0, .int .i64 x, .func (.func g) #[] lb, .int .i64 x, undef, undef, undef, undef, undef], defers := [] }) ?assign ?body ?done ?stop
  case assign =>
    intro l x W K hK
    gi_wp2
    exact hK
  case body =>
    rintro l pre x W ⟨⟨v, hv, hrow, hnil⟩, hB⟩ hlt
    have hc := hv.cell
    gi_wp2_with (gi_at_builtin; refine wpListIn_append_own _ rfl _ _ 58 rfl w.heap.size 3 i0 (.int .i64 0) 1 8 Tryz.underlying58 hi hz0 hz1 hz2 rfl (by decide) _ _ _ rfl (hrow.alloc _) ⟨W.heap.size, 0, none⟩ 1 1 [.int .i64 x] rfl rfl (cell_one_new _ _ _) (by simp [Value.oneCell']) (by omega) (by omega) (by have := hB.size; simp; omega) ?_; intro v' w1 hown' hgrow _; obtain ⟨g', cap', rfl⟩ := ownsRow_succ hown'; obtain ⟨hv1, hv2, hr2, hk2, hb2⟩ := hv.appended (by decide) hrow hB.size (Nat.le_refl _) hown' hgrow; have hc1 := hv1.cell; have hf1 := hv1.frozen)
    exact ⟨hk2.from _, hb2.mono hn₀, ⟨_, hv2, by simpa using hr2, by simp⟩, hB.trans hb2⟩
  case done =>
    rintro D ys W hD rfl ⟨⟨v, hv, hrow, hnil⟩, hB⟩ hK
    have hc := hv.cell
    gi_wp2
    refine ⟨by simp, .inl ⟨_, _, rfl, run_takeDeferred hK, ?_⟩⟩
    exact ⟨_, results_tmp rfl _ _ _, v, rfl, ownsRow_putObj hrow _ hK rfl, hnil, hB.trans (belowK_b (w := w) (Nat.le_refl _) W D _ _ (by simp at hD; omega) hK rfl rfl)⟩
  case stop =>
    rintro D c pre W _ _ h _
    exact h.elim

end Go.Proofs.YtbogljpafpkikaaGreatDoor

/-
  The library's slices.IndexFunc and slices.DeleteFunc at []int, with the predicate of Crash.
-/
namespace Go.Proofs.YtbogljpafpkikaaGreatDoor
open Go.RowKit Go.Lib

/-- The index of the first element that p takes, or -1. -/
def idxP (p : Int → Bool) (zs : List Int) : Int := match zs.findIdx? p with | some k => k | none => -1

/-- The elements that p does not take. -/
def keepP (p : Int → Bool) (zs : List Int) : List Int := zs.filter fun x => !p x

/-- A predicate: in every world that differs from w in block g alone. -/
def PredC (f : Nat) (lb : Array Value) (p : Int → Bool) (g : Nat) (w : World) : Prop :=
  ∀ (x : Int) (W : World), -9223372036854775808 ≤ x → x ≤ 9223372036854775807 → Fr [g] w W → Calls Tryz.prog f (#[.int .i64 x] ++ lb) W fun e W' => e = .returned (.bool (p x)) ∧ W = W'

theorem idxP_some {p : Int → Bool} {zs : List Int} {k : Nat} (hk : k < zs.length) (h1 : p zs[k] = true) (h0 : ∀ j, (h : j < k) → p (zs[j]'(by omega)) = false) : idxP p zs = k := by
  have : zs.findIdx? p = some k := List.findIdx?_eq_some_iff_getElem.2 ⟨hk, h1, fun j hj => by simp [h0 j hj]⟩
  simp [idxP, this]
theorem idxP_none {p : Int → Bool} {zs : List Int} (h0 : ∀ j, (h : j < zs.length) → p zs[j] = false) : idxP p zs = -1 := by
  have : zs.findIdx? p = none := List.findIdx?_eq_none_iff.2 fun x hx => by
    obtain ⟨j, hj, rfl⟩ := List.getElem_of_mem hx
    exact h0 j hj
  simp [idxP, this]

set_option maxRecDepth 100000 in
set_option maxHeartbeats 1000000 in
theorem indexFunc_c (B g n cap : Nat) (p : Int → Bool) (zs : List Int) (cur : Array Value) (w : World) (hg : w.heap[g]? = some (.cells cur 3 (0, 0))) (hn : zs.length = n) (hcur : ∀ j, (h : j < zs.length) → cur[j]? = some (.int .i64 (zs[j]))) (hcap : n ≤ 9223372036854775807)
    (hz : ∀ x, x ∈ zs → -9223372036854775808 ≤ x ∧ x ≤ 9223372036854775807) (hp : PredC 86 #[.pointer (some ⟨B, 0, none⟩)] p g w) :
    Calls Tryz.prog 103 #[.slice (some ⟨g, 0, none⟩) n cap, .func (.func 86) #[] #[.pointer (some ⟨B, 0, none⟩)]] w fun e w' => e = .returned (.int .i64 (idxP p zs)) ∧ w = w' := by
  have Hg := Lib.hid hg; have Hn := Lib.hid hn; have Hcur := Lib.hid hcur; have Hz := Lib.hid hz; have Hp := Lib.hid hp
  clear hg hn hcur hz hp
  go_enter Tryz.func103, Tryz.ntmps103
  go_wp2
  go_loop [8] (fun i => ∃ k : Nat, k ≤ n ∧ i = .int .i64 k ∧ Hid (∀ j, (h : j < zs.length) → j < k → p zs[j] = false)) (fun i => n - (intOf i).toNat)
  case atStart => exact ⟨0, Nat.zero_le _, rfl, Lib.hid fun j _ h => by omega⟩
  case round =>
    obtain ⟨k, hk, rfl, H0⟩ := hrel
    by_cases hlt : k < n
    · have hlz : k < zs.length := by rw [Hn.out]; exact hlt
      have hc : w.cell? ⟨g, k, none⟩ = some (.int .i64 zs[k]) := (cell_of_blk Hg.out k).trans (Hcur.out k hlz)
      have hzk := Hz.out zs[k] (List.getElem_mem hlz)
      have hpc := Hp.out zs[k] w hzk.1 hzk.2 (Fr.refl _ _)
      generalize hx : zs[k] = x at *
      have Hx := Lib.hid hx; clear hx
      cases hb : p x with
      | true =>
        rw [hb] at hpc
        have Hpc := Lib.hid hpc; have Hb := Lib.hid hb; clear hpc hb
        go_wp2_with (go_at_call 86; refine Hpc.out.mono ?_; rintro e w' ⟨rfl, rfl⟩)
        go_ret
        exact ⟨by rw [idxP_some hlz (by rw [Hx.out]; exact Hb.out) (fun j hj => H0.out j (by omega) hj)]; rfl, rfl⟩
      | false =>
        rw [hb] at hpc
        have Hpc := Lib.hid hpc; have Hb := Lib.hid hb; clear hpc hb
        go_wp2_with (go_at_call 86; refine Hpc.out.mono ?_; rintro e w' ⟨rfl, rfl⟩)
        go_round
        case rel => exact ⟨k + 1, by omega, by go_num, Lib.hid fun j h1 h2 => by
          rcases Nat.lt_or_ge j k with h | h
          · exact H0.out j h1 h
          · obtain rfl : j = k := by omega
            rw [Hx.out]; exact Hb.out⟩
        case measure => simp [intOf]; omega
    · go_wp2
      go_ret
      exact ⟨by rw [idxP_none (fun j hj => H0.out j hj (by rw [Hn.out] at hj; omega))]; rfl, rfl⟩

theorem keepP_all {p : Int → Bool} {zs : List Int} (h0 : ∀ j, (h : j < zs.length) → p zs[j] = false) : keepP p zs = zs :=
  List.filter_eq_self.2 fun x hx => by
    obtain ⟨j, hj, rfl⟩ := List.getElem_of_mem hx
    simp [h0 j hj]
theorem keepP_snoc (p : Int → Bool) (l : List Int) (x : Int) : keepP p (l ++ [x]) = keepP p l ++ if p x then [] else [x] := by
  unfold keepP
  rw [List.filter_append]
  cases h : p x <;> simp [h]
theorem keepP_len (p : Int → Bool) (l : List Int) : (keepP p l).length ≤ l.length := List.length_filter_le _ _
theorem take_snocI (zs : List Int) (k : Nat) (h : k < zs.length) : zs.take (k + 1) = zs.take k ++ [zs[k]] := List.take_succ_eq_append_getElem h
theorem idxP_cases (p : Int → Bool) (zs : List Int) : (idxP p zs = -1 ∧ ∀ j, (h : j < zs.length) → p zs[j] = false) ∨ ∃ k, ∃ hk : k < zs.length, idxP p zs = k ∧ p zs[k] = true ∧ ∀ j, (h : j < k) → p (zs[j]'(by omega)) = false := by
  cases h : zs.findIdx? p with
  | none =>
    refine .inl ⟨by simp [idxP, h], fun j hj => ?_⟩
    have := List.findIdx?_eq_none_iff.1 h zs[j] (List.getElem_mem hj)
    simpa using this
  | some k =>
    obtain ⟨hk, h1, h2⟩ := List.findIdx?_eq_some_iff_getElem.1 h
    exact .inr ⟨k, hk, by simp [idxP, h], h1, fun j hj => by simpa using h2 j hj⟩

/-- The row while DeleteFunc goes over it: the first places hold what is kept of the first j, from j on all is as it was. -/
structure DelAt (p : Int → Bool) (zs : List Int) (n0 : Nat) (j : Nat) (cur : Array Value) : Prop where
  size : cur.size = n0
  kept : ∀ k, (h : k < (keepP p (zs.take j)).length) → cur[k]? = some (.int .i64 (keepP p (zs.take j))[k])
  rest : ∀ k, (h : k < zs.length) → j ≤ k → cur[k]? = some (.int .i64 zs[k])

def Deleted (p : Int → Bool) (zs : List Int) (g cap : Nat) (w : World) (e : Ending) (w' : World) : Prop :=
  e = .returned (.slice (some ⟨g, 0, none⟩) (keepP p zs).length cap) ∧ Fr [g] w w' ∧ ∃ cur : Array Value, cur.size = cap ∧ w'.heap[g]? = some (.cells cur 3 (0, 0)) ∧ ∀ k, (h : k < (keepP p zs).length) → cur[k]? = some (.int .i64 (keepP p zs)[k])

theorem zeroI (w : World) : (zeroValue 3).run Tryz.prog w = .ok (.int .i64 0) w := by kernel_rfl

theorem DelAt.skip {p : Int → Bool} {zs : List Int} {n0 j : Nat} {cur : Array Value} (h : DelAt p zs n0 j cur) (hj : j < zs.length) (hp : p zs[j] = true) : DelAt p zs n0 (j + 1) cur := by
  have e : keepP p (zs.take (j + 1)) = keepP p (zs.take j) := by rw [take_snocI zs j hj, keepP_snoc, hp]; simp
  exact ⟨h.size, by rw [e]; exact h.kept, fun k hk h2 => h.rest k hk (by omega)⟩
theorem DelAt.put {p : Int → Bool} {zs : List Int} {n0 j : Nat} {cur : Array Value} (h : DelAt p zs n0 j cur) (hj : j < zs.length) (hn : zs.length ≤ n0) (hp : p zs[j] = false) :
    DelAt p zs n0 (j + 1) (cur.setIfInBounds (keepP p (zs.take j)).length (.int .i64 zs[j])) := by
  have e : keepP p (zs.take (j + 1)) = keepP p (zs.take j) ++ [zs[j]] := by rw [take_snocI zs j hj, keepP_snoc, hp]; simp
  have hl : (keepP p (zs.take j)).length ≤ j := Nat.le_trans (keepP_len _ _) (by simp; omega)
  refine ⟨by simp [h.size], ?_, ?_⟩
  · rw [e]
    intro k hk
    simp only [List.length_append, List.length_singleton] at hk
    rw [Array.getElem?_setIfInBounds]
    by_cases hkl : (keepP p (zs.take j)).length = k
    · subst hkl
      rw [if_pos rfl, if_pos (by rw [h.size]; omega)]
      simp
    · rw [if_neg hkl, h.kept k (by omega)]
      rw [List.getElem_append_left (by omega)]
  · intro k hk h2
    rw [Array.getElem?_setIfInBounds, if_neg (by omega)]
    exact h.rest k hk (by omega)

set_option maxRecDepth 100000 in
set_option maxHeartbeats 2000000 in
theorem deleteFunc_c (B g cap : Nat) (p : Int → Bool) (zs : List Int) (cur : Array Value) (w : World) (hg : w.heap[g]? = some (.cells cur 3 (0, 0))) (hcs : cur.size = cap) (hcur : ∀ j, (h : j < zs.length) → cur[j]? = some (.int .i64 (zs[j]))) (hn : zs.length ≤ cap) (hcap : cap ≤ 9223372036854775807)
    (hz : ∀ x, x ∈ zs → -9223372036854775808 ≤ x ∧ x ≤ 9223372036854775807) (hp : PredC 86 #[.pointer (some ⟨B, 0, none⟩)] p g w) :
    Calls Tryz.prog 85 #[.slice (some ⟨g, 0, none⟩) zs.length cap, .func (.func 86) #[] #[.pointer (some ⟨B, 0, none⟩)]] w (Deleted p zs g cap w) := by
  have cI := indexFunc_c B g zs.length cap p zs cur w hg rfl hcur (by omega) hz hp
  rcases idxP_cases p zs with ⟨hi, h0⟩ | ⟨k, hk, hi, h1, h0⟩
  · rw [hi] at cI
    have hD : Deleted p zs g cap w (.returned (.slice (some ⟨g, 0, none⟩) zs.length cap)) w :=
      ⟨by rw [keepP_all h0], Fr.refl _ _, cur, hcs, hg, by rw [keepP_all h0]; exact hcur⟩
    have CI := Lib.hid cI; have HD := Lib.hid hD
    clear cI hD hg hcs hcur hz hp hi h0
    go_enter Tryz.func85, Tryz.ntmps85
    go_wp2_with (go_at_call 103; refine CI.out.mono ?_; rintro e w' ⟨rfl, rfl⟩)
    go_ret
    exact HD.out
  · rw [hi] at cI
    have hd0 : DelAt p zs cap (k + 1) cur := by
      refine ⟨hcs, ?_, fun j hj _ => hcur j hj⟩
      have e : keepP p (zs.take (k + 1)) = zs.take k := by
        rw [take_snocI zs k hk, keepP_snoc, h1, keepP_all (fun j hj => by
          have : j < k := by simp at hj; omega
          simpa using h0 j this)]
        simp
      rw [e]
      intro j hj
      simp only [List.length_take] at hj
      rw [hcur j (by omega)]
      simp
    have hlk : (keepP p (zs.take (k + 1))).length = k := by
      rw [take_snocI zs k hk, keepP_snoc, h1, keepP_all (fun j hj => by
          have : j < k := by simp at hj; omega
          simpa using h0 j this)]
      simp; omega
    clear hcur h0 h1 hi
    generalize hlen : zs.length = n at hn cI hk ⊢
    have Hlen := Lib.hid hlen
    have CI := Lib.hid cI; have Hg := Lib.hid hg; have HD0 := Lib.hid hd0; have Hz := Lib.hid hz; have Hp := Lib.hid hp; have Hlk := Lib.hid hlk; have Hcs := Lib.hid hcs
    clear cI hg hd0 hz hp hlk hcs
    have hk1 : ((k : Int) == -1) = false := by rw [beq_eq_false_iff_ne]; omega
    clear hlen
    go_enter Tryz.func85, Tryz.ntmps85
    go_wp2_with (go_at_call 103; refine CI.out.mono ?_; rintro e w' ⟨rfl, rfl⟩)
    go_loopw [5, 6] (fun i j wr => ∃ (i' j' : Nat) (cu : Array Value), j' ≤ n ∧ i' < j' ∧ i = .int .i64 i' ∧ j = .int .i64 j' ∧ Hid ((keepP p (zs.take j')).length = i') ∧ Hid (DelAt p zs cap j' cu) ∧ Hid (wr.heap[g]? = some (.cells cu 3 (0, 0))) ∧ Fr [g] w wr) (fun _ j _ => n - (intOf j).toNat)
    case atStart => exact ⟨k, k + 1, cur, by omega, by omega, rfl, by go_num, Hlk, HD0, Hg, Fr.refl _ _⟩
    case round =>
      obtain ⟨i, j, cu, hjn, hij, rfl, rfl, HL, HD, HH, hfr⟩ := hrel
      by_cases hlt : j < n
      · have hlz : j < zs.length := by rw [Hlen.out]; exact hlt
        have hc : wr.cell? ⟨g, j, none⟩ = some (.int .i64 zs[j]) := (cell_of_blk HH.out j).trans (HD.out.rest j hlz (Nat.le_refl _))
        have hci : ∃ v, wr.cell? ⟨g, i, none⟩ = some v := by
          rw [cell_of_blk HH.out]
          have : i < cu.size := by rw [HD.out.size]; omega
          exact ⟨cu[i], by simp [this]⟩
        obtain ⟨vi, hci⟩ := hci
        have hfi := free_of_blk HH.out i
        have hzj := Hz.out zs[j] (List.getElem_mem hlz)
        have hpc := Hp.out zs[j] wr hzj.1 hzj.2 hfr
        generalize hx : zs[j] = x at *
        have Hx := Lib.hid hx; clear hx
        cases hb : p x with
        | true =>
          rw [hb] at hpc
          have Hpc := Lib.hid hpc; have Hb := Lib.hid hb; clear hpc hb
          go_wp2_with (go_at_call 86; refine Hpc.out.mono ?_; rintro e w' ⟨rfl, rfl⟩)
          go_roundw
          case rel =>
            have hpz : p (zs[j]'hlz) = true := by rw [Hx.out]; exact Hb.out
            refine ⟨i, j + 1, cu, by omega, by omega, rfl, by go_num, ?_, Lib.hid (HD.out.skip hlz hpz), HH, hfr⟩
            exact Lib.hid (by rw [take_snocI zs j hlz, keepP_snoc, hpz]; simpa using HL.out)
          case measure => simp [intOf]; omega
        | false =>
          rw [hb] at hpc
          have Hpc := Lib.hid hpc; have Hb := Lib.hid hb; clear hpc hb
          go_wp2_with (go_at_call 86; refine Hpc.out.mono ?_; rintro e w' ⟨rfl, rfl⟩)
          go_roundw
          case rel =>
            have hpz : p (zs[j]'hlz) = false := by rw [Hx.out]; exact Hb.out
            refine ⟨i + 1, j + 1, _, by omega, by omega, by go_num, by go_num, ?_, Lib.hid (HD.out.put hlz (by rw [Hlen.out]; exact hn) hpz), Lib.hid ?_, hfr.trans (Fr.setCell _ _ (by simp))⟩
            · exact Lib.hid (by rw [take_snocI zs j hlz, keepP_snoc, hpz]; simpa using HL.out)
            · rw [heap_setCell_same _ HH.out, HL.out, Hx.out]
          case measure => simp [intOf]; omega
      · obtain rfl : j = n := by omega
        have hine : ¬ cap = i := by omega
        have hil : i ≤ j := by omega
        go_wp2_with ((with_reducible refine wpList_of_wp (o := ⟨none, .call _, _, _, _, _⟩) rfl (fun K hK => ?_)); refine (wp_clear_off (.tmp 38) 58 3 _ rfl Tryz.underlying58 zeroI (by simp [Value.cells, Value.oneCell']) g i (j - i) (cap - i) cu 3 rfl HH.out (by rw [HD.out.size]; simp [Value.cells]; omega) (by simp [Value.cells]) (fun cs hcs hck => hK _ _ ?_)); have HC := Lib.hid hcs; have HK := Lib.hid hck; clear hcs hck hK K)
        go_ret
        have hz : zs.take j = zs := List.take_of_length_le (by rw [Hlen.out]; exact Nat.le_refl _)
        have hl := HL.out
        have hkp := HD.out.kept
        rw [hz] at hl hkp
        refine ⟨by rw [hl]; rfl, hfr.trans (Fr.setRow _ _ (by simp)), cs, by rw [HC.out, HD.out.size], setRow_heap _ _ _ _ _ _ HH.out, ?_⟩
        intro q hq
        rw [HK.out q (by omega)]
        exact hkp q hq

end Go.Proofs.YtbogljpafpkikaaGreatDoor

/-
  The library's slices.Collect, slices.Sorted, slices.Compact at []int, as Crash uses them.
-/
namespace Go.Proofs.YtbogljpafpkikaaGreatDoor
open Go.RowKit Go.Lib Go.Sort

def sortI (zs : List Int) : List Int := zs.mergeSort fun x y => decide (x ≤ y)
theorem sortI_length (zs : List Int) : (sortI zs).length = zs.length := by simp [sortI]

set_option maxRecDepth 100000 in
set_option maxHeartbeats 1000000 in
theorem collect_c (g : Nat) (lb : Array Value) (zs : List Int) (w : World) (eg : ∀ args w, (callFunc g args).run Tryz.prog w = .ok (.enter g args) w) (hlen : zs.length ≤ maxLen) (hbytes : zs.length * 8 ≤ 140737488355328) (n₀ : Nat) (hn₀ : n₀ ≤ w.heap.size)
    (hseq : SeqStopsK Fence.wide 9 Tryz.prog g lb (fun x : Int => #[Value.int .i64 x]) (Below n₀) (fun ys => ys = zs) (fun pre => pre <+: zs) zs.length w) :
    Calls Tryz.prog 100 #[.func (.func g) #[] lb] w fun e W' => ∃ v, e = .returned v ∧ W'.ownsRow w.heap.size 3 1 v zs.length (zs.map (Value.int .i64)) ∧ (v = .slice none 0 0 ↔ zs = []) ∧ Below w.heap.size w W' := by
  have hA := Lib.hid (callsIn_wide.1 (appendSeq_in Fence.wide 10 trivial rfl (by omega) g lb trivial eg zs n₀ hlen hbytes w hn₀ hseq))
  clear hseq eg
  go_enter Tryz.func100, Tryz.ntmps100
  go_wp2_with (go_at_call 112; refine hA.out.mono ?_; rintro e w' ⟨v, rfl, h1, h2, h3⟩; have H1 := Lib.hid h1; have H2 := Lib.hid h2; have H3 := Lib.hid h3; clear h1 h2 h3)
  go_ret
  exact ⟨v, rfl, H1.out, H2.out, H3.out⟩

set_option maxRecDepth 100000 in
set_option maxHeartbeats 1000000 in
theorem sorted_c (g : Nat) (lb : Array Value) (zs : List Int) (w : World) (eg : ∀ args w, (callFunc g args).run Tryz.prog w = .ok (.enter g args) w) (hlen : zs.length ≤ maxLen) (hbytes : zs.length * 8 ≤ 140737488355328) (n₀ : Nat) (hn₀ : n₀ ≤ w.heap.size)
    (hseq : SeqStopsK Fence.wide 9 Tryz.prog g lb (fun x : Int => #[Value.int .i64 x]) (Below n₀) (fun ys => ys = zs) (fun pre => pre <+: zs) zs.length w) :
    Calls Tryz.prog 83 #[.func (.func g) #[] lb] w fun e W' => ∃ v, e = .returned v ∧ W'.ownsRow w.heap.size 3 1 v zs.length ((sortI zs).map (Value.int .i64)) ∧ (v = .slice none 0 0 ↔ zs = []) ∧ Below w.heap.size w W' := by
  have hA := Lib.hid (collect_c g lb zs w eg hlen hbytes n₀ hn₀ hseq)
  clear hseq eg
  go_enter Tryz.func83, Tryz.ntmps83
  go_wp2_with (go_at_call 100; refine hA.out.mono ?_; rintro e w1 ⟨v, rfl, h1, h2, h3⟩; have H1 := Lib.hid h1; have H2 := Lib.hid h2; have H3 := Lib.hid h3; clear h1 h2 h3)
  rcases H1.out.2 with ⟨rfl, hz⟩ | ⟨gb, cap, cur, rfl, hbase, hgb, r1, r2, r3, r4⟩
  · have hss : zs = [] := List.eq_nil_of_length_eq_zero hz
    subst hss
    have hS := Lib.hid (Tryz.slices_Sort_int_none none 0 w1)
    go_wp2_with (go_at_call 101; refine hS.out.mono ?_; rintro e w' ⟨rfl, rfl⟩)
    go_ret
    exact ⟨.slice none 0 0, rfl, by simpa [sortI] using H1.out, by simp, H3.out⟩
  · have hgl : gb < w1.heap.size := (Array.getElem?_eq_some_iff.1 hgb).1
    have hH : Holds (Value.int .i64) w1 gb 0 zs.toArray := holds_of_blockI hgb (by simpa using r4)
    have hS := Lib.hid (Tryz.slices_Sort_int gb 0 cap zs w1 hH hgl (by omega))
    have Hgb := Lib.hid hgb; have R1 := Lib.hid r1; have R2 := Lib.hid r2; have R3 := Lib.hid r3; have Hb := Lib.hid hbase
    clear hgb r1 r2 r3 r4 hH hgl hbase
    go_wp2_with (go_at_call 101; refine hS.out.mono ?_; rintro e w' ⟨rfl, nn, os, rfl⟩)
    go_ret
    exact ⟨_, rfl, ownsRow_sortedI (sortI_length zs) Hb.out Hgb.out R1.out R2.out R3.out, H2.out, H3.out.grown (grownBy_sortedI _) H3.out.size (fun j hj => by cases hj; exact Hb.out)⟩

theorem sorted_vals (sv : Value) (zs : List Int) (w : World) (hI : IntsB w.heap.size w sv zs) (hreach : zs.length * 8 ≤ 140737488351232) (hlen : zs.length ≤ 9223372036854775807) :
    Calls Tryz.prog 83 #[.func (.func 102) #[] #[.pointer (some ⟨w.heap.size, 0, none⟩)]] (w.alloc (.cells #[sv] 58)) fun e W' => ∃ v, e = .returned v ∧ W'.ownsRow (w.heap.size + 1) 3 1 v zs.length ((sortI zs).map (Value.int .i64)) ∧ (v = .slice none 0 0 ↔ zs = []) ∧ Below (w.heap.size + 1) (w.alloc (.cells #[sv] 58)) W' := by
  have h := sorted_c 102 #[.pointer (some ⟨w.heap.size, 0, none⟩)] zs (w.alloc (.cells #[sv] 58)) (enters_of Tryz.func102 (by kernel_rfl) rfl) hlen (by omega) w.heap.size (by simp)
    (values_stops Fence.wide 9 trivial rfl (by omega) w.heap.size w.heap.size sv zs hreach _ (by simp) (by simp) (cell_of_blk (heap_alloc_new w _) 0) (hI.below ((Below.refl _ w).alloc (Nat.le_refl _) _)))
  simpa using h

theorem compact_c (v : Value) (ys : List Int) (w : World) (h : w.ownsRow 0 3 1 v ys.length (ys.map (Value.int .i64))) :
    Calls Tryz.prog 82 #[v] w fun e w' => ∃ v', e = .returned v' ∧ w'.ownsRow 0 3 1 v' (Lib.compact ys).length ((Lib.compact ys).map (Value.int .i64)) ∧ v'.ownBlock = v.ownBlock ∧ Fr v.ownBlock.toList w w' := by
  rcases h.2 with ⟨rfl, hz⟩ | ⟨gb, cap, cur, rfl, hbase, hgb, r1, r2, r3, r4⟩
  · have hss : ys = [] := List.eq_nil_of_length_eq_zero hz
    subst hss
    refine (Tryz.slices_Compact_int_empty none 0 w).mono ?_
    rintro e w' ⟨rfl, rfl⟩
    exact ⟨_, rfl, ⟨rfl, .inl ⟨rfl, rfl⟩⟩, rfl, Fr.refl _ _⟩
  · have hH : Holds (Value.int .i64) w gb 0 ys.toArray := holds_of_blockI hgb (by simpa using r4)
    refine (Tryz.slices_Compact_int gb 0 cap ys w hH (Nat.le_trans r1 r2) r1).mono ?_
    rintro e w' ⟨rfl, q, rfl⟩
    have hcl : (Lib.compact ys).length ≤ ys.length := compact_length_le ys
    generalize hts : Lib.compact ys ++ List.replicate (ys.length - (Lib.compact ys).length) 0 = ts
    have hl : ts.length = ys.length := by rw [← hts]; simp; omega
    have ho := ownsRow_sortedI (n := q) (os := #[]) hl hbase hgb r1 r2 r3
    have hf := grownBy_sortedI (w := w) (g := gb) (n := q) (os := #[]) ts.toArray
    rw [grow_empty] at ho hf
    refine ⟨_, rfl, ?_, rfl, Fr.grown hf fun k hk => by cases hk; simp [Value.ownBlock]⟩
    rcases ho.2 with ⟨h0, _⟩ | ⟨g', cap', cur', hv, _, hg', s1, s2, s3, s4⟩
    · cases h0
    · cases hv
      refine ⟨by simp, .inr ⟨gb, cap, cur', rfl, Nat.zero_le _, hg', by omega, s2, s3, ?_⟩⟩
      have e1 : cur'.toList.take ((Lib.compact ys).length * 1) = (cur'.toList.take (ys.length * 1)).take (Lib.compact ys).length := by
        rw [List.take_take, Nat.mul_one, Nat.mul_one, Nat.min_eq_left hcl]
      rw [e1, s4, ← hts, List.map_append, List.take_left' (by simp)]

end Go.Proofs.YtbogljpafpkikaaGreatDoor
