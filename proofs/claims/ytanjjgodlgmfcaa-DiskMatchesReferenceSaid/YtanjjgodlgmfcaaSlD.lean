/-
  The library's slices.IndexFunc and slices.DeleteFunc at []int, with the predicate of Crash.
-/
import Derived.Test.YtanjjgodlgmfcaaDkW2
namespace Go.Proofs.Ytanjjgodlgmfcaa
open Go.RowKit Go.Lib

/-- The index of the first element that p takes, or -1. -/
def idxP (p : Int → Bool) (zs : List Int) : Int := match zs.findIdx? p with | some k => k | none => -1

/-- The elements that p does not take. -/
def keepP (p : Int → Bool) (zs : List Int) : List Int := zs.filter fun x => !p x

/-- A predicate: in every world that differs from w in block g alone. -/
def PredC (f : Nat) (lb : Array Value) (p : Int → Bool) (g : Nat) (w : World) : Prop :=
  ∀ (x : Int) (W : World), -9223372036854775808 ≤ x → x ≤ 9223372036854775807 → Fr [g] w W → Calls Try.prog f (#[.int .i64 x] ++ lb) W fun e W' => e = .returned (.bool (p x)) ∧ W = W'

theorem idxP_some {p : Int → Bool} {zs : List Int} {k : Nat} (hk : k < zs.length) (h1 : p zs[k] = true) (h0 : ∀ j, (h : j < k) → p (zs[j]'(by omega)) = false) : idxP p zs = k := by
  have : zs.findIdx? p = some k := List.findIdx?_eq_some_iff_getElem.2 ⟨hk, h1, fun j hj => by simp [h0 j hj]⟩
  simp [idxP, this]
theorem idxP_none {p : Int → Bool} {zs : List Int} (h0 : ∀ j, (h : j < zs.length) → p zs[j] = false) : idxP p zs = -1 := by
  have : zs.findIdx? p = none := List.findIdx?_eq_none_iff.2 fun x hx => by
    obtain ⟨j, hj, rfl⟩ := List.getElem_of_mem hx
    exact h0 j hj
  simp [idxP, this]

set_option maxRecDepth 100000 in
set_option maxHeartbeats 1000000 in
theorem indexFunc_c (B g n cap : Nat) (p : Int → Bool) (zs : List Int) (cur : Array Value) (w : World) (hg : w.heap[g]? = some (.cells cur 3 (0, 0))) (hn : zs.length = n) (hcur : ∀ j, (h : j < zs.length) → cur[j]? = some (.int .i64 (zs[j]))) (hcap : n ≤ 9223372036854775807)
    (hz : ∀ x, x ∈ zs → -9223372036854775808 ≤ x ∧ x ≤ 9223372036854775807) (hp : PredC 42 #[.pointer (some ⟨B, 0, none⟩)] p g w) :
    Calls Try.prog 48 #[.slice (some ⟨g, 0, none⟩) n cap, .func (.func 42) #[] #[.pointer (some ⟨B, 0, none⟩)]] w fun e w' => e = .returned (.int .i64 (idxP p zs)) ∧ w = w' := by
  have Hg := Lib.hid hg; have Hn := Lib.hid hn; have Hcur := Lib.hid hcur; have Hz := Lib.hid hz; have Hp := Lib.hid hp
  clear hg hn hcur hz hp
  go_enter Try.func48, Try.ntmps48
  go_wp2
  go_loop [8] (fun i => ∃ k : Nat, k ≤ n ∧ i = .int .i64 k ∧ Hid (∀ j, (h : j < zs.length) → j < k → p zs[j] = false)) (fun i => n - (intOf i).toNat)
  case atStart => exact ⟨0, Nat.zero_le _, rfl, Lib.hid fun j _ h => by omega⟩
  case round =>
    obtain ⟨k, hk, rfl, H0⟩ := hrel
    by_cases hlt : k < n
    · have hlz : k < zs.length := by rw [Hn.out]; exact hlt
      have hc : w.cell? ⟨g, k, none⟩ = some (.int .i64 zs[k]) := (cell_of_blk Hg.out k).trans (Hcur.out k hlz)
      have hzk := Hz.out zs[k] (List.getElem_mem hlz)
      have hpc := Hp.out zs[k] w hzk.1 hzk.2 (Fr.refl _ _)
      generalize hx : zs[k] = x at *
      have Hx := Lib.hid hx; clear hx
      cases hb : p x with
      | true =>
        rw [hb] at hpc
        have Hpc := Lib.hid hpc; have Hb := Lib.hid hb; clear hpc hb
        go_wp2_with (go_at_call 42; refine Hpc.out.mono ?_; rintro e w' ⟨rfl, rfl⟩)
        go_ret
        exact ⟨by rw [idxP_some hlz (by rw [Hx.out]; exact Hb.out) (fun j hj => H0.out j (by omega) hj)]; rfl, rfl⟩
      | false =>
        rw [hb] at hpc
        have Hpc := Lib.hid hpc; have Hb := Lib.hid hb; clear hpc hb
        go_wp2_with (go_at_call 42; refine Hpc.out.mono ?_; rintro e w' ⟨rfl, rfl⟩)
        go_round
        case rel => exact ⟨k + 1, by omega, by go_num, Lib.hid fun j h1 h2 => by
          rcases Nat.lt_or_ge j k with h | h
          · exact H0.out j h1 h
          · obtain rfl : j = k := by omega
            rw [Hx.out]; exact Hb.out⟩
        case measure => simp [intOf]; omega
    · go_wp2
      go_ret
      exact ⟨by rw [idxP_none (fun j hj => H0.out j hj (by rw [Hn.out] at hj; omega))]; rfl, rfl⟩

theorem keepP_all {p : Int → Bool} {zs : List Int} (h0 : ∀ j, (h : j < zs.length) → p zs[j] = false) : keepP p zs = zs :=
  List.filter_eq_self.2 fun x hx => by
    obtain ⟨j, hj, rfl⟩ := List.getElem_of_mem hx
    simp [h0 j hj]
theorem keepP_snoc (p : Int → Bool) (l : List Int) (x : Int) : keepP p (l ++ [x]) = keepP p l ++ if p x then [] else [x] := by
  unfold keepP
  rw [List.filter_append]
  cases h : p x <;> simp [h]
theorem keepP_len (p : Int → Bool) (l : List Int) : (keepP p l).length ≤ l.length := List.length_filter_le _ _
theorem take_snocI (zs : List Int) (k : Nat) (h : k < zs.length) : zs.take (k + 1) = zs.take k ++ [zs[k]] := List.take_succ_eq_append_getElem h
theorem idxP_cases (p : Int → Bool) (zs : List Int) : (idxP p zs = -1 ∧ ∀ j, (h : j < zs.length) → p zs[j] = false) ∨ ∃ k, ∃ hk : k < zs.length, idxP p zs = k ∧ p zs[k] = true ∧ ∀ j, (h : j < k) → p (zs[j]'(by omega)) = false := by
  cases h : zs.findIdx? p with
  | none =>
    refine .inl ⟨by simp [idxP, h], fun j hj => ?_⟩
    have := List.findIdx?_eq_none_iff.1 h zs[j] (List.getElem_mem hj)
    simpa using this
  | some k =>
    obtain ⟨hk, h1, h2⟩ := List.findIdx?_eq_some_iff_getElem.1 h
    exact .inr ⟨k, hk, by simp [idxP, h], h1, fun j hj => by simpa using h2 j hj⟩

/-- The row while DeleteFunc goes over it: the first places hold what is kept of the first j, from j on all is as it was. -/
structure DelAt (p : Int → Bool) (zs : List Int) (n0 : Nat) (j : Nat) (cur : Array Value) : Prop where
  size : cur.size = n0
  kept : ∀ k, (h : k < (keepP p (zs.take j)).length) → cur[k]? = some (.int .i64 (keepP p (zs.take j))[k])
  rest : ∀ k, (h : k < zs.length) → j ≤ k → cur[k]? = some (.int .i64 zs[k])

def Deleted (p : Int → Bool) (zs : List Int) (g cap : Nat) (w : World) (e : Ending) (w' : World) : Prop :=
  e = .returned (.slice (some ⟨g, 0, none⟩) (keepP p zs).length cap) ∧ Fr [g] w w' ∧ ∃ cur : Array Value, cur.size = cap ∧ w'.heap[g]? = some (.cells cur 3 (0, 0)) ∧ ∀ k, (h : k < (keepP p zs).length) → cur[k]? = some (.int .i64 (keepP p zs)[k])

theorem zeroI (w : World) : (zeroValue 3).run Try.prog w = .ok (.int .i64 0) w := by kernel_rfl

theorem DelAt.skip {p : Int → Bool} {zs : List Int} {n0 j : Nat} {cur : Array Value} (h : DelAt p zs n0 j cur) (hj : j < zs.length) (hp : p zs[j] = true) : DelAt p zs n0 (j + 1) cur := by
  have e : keepP p (zs.take (j + 1)) = keepP p (zs.take j) := by rw [take_snocI zs j hj, keepP_snoc, hp]; simp
  exact ⟨h.size, by rw [e]; exact h.kept, fun k hk h2 => h.rest k hk (by omega)⟩
theorem DelAt.put {p : Int → Bool} {zs : List Int} {n0 j : Nat} {cur : Array Value} (h : DelAt p zs n0 j cur) (hj : j < zs.length) (hn : zs.length ≤ n0) (hp : p zs[j] = false) :
    DelAt p zs n0 (j + 1) (cur.setIfInBounds (keepP p (zs.take j)).length (.int .i64 zs[j])) := by
  have e : keepP p (zs.take (j + 1)) = keepP p (zs.take j) ++ [zs[j]] := by rw [take_snocI zs j hj, keepP_snoc, hp]; simp
  have hl : (keepP p (zs.take j)).length ≤ j := Nat.le_trans (keepP_len _ _) (by simp; omega)
  refine ⟨by simp [h.size], ?_, ?_⟩
  · rw [e]
    intro k hk
    simp only [List.length_append, List.length_singleton] at hk
    rw [Array.getElem?_setIfInBounds]
    by_cases hkl : (keepP p (zs.take j)).length = k
    · subst hkl
      rw [if_pos rfl, if_pos (by rw [h.size]; omega)]
      simp
    · rw [if_neg hkl, h.kept k (by omega)]
      rw [List.getElem_append_left (by omega)]
  · intro k hk h2
    rw [Array.getElem?_setIfInBounds, if_neg (by omega)]
    exact h.rest k hk (by omega)

set_option maxRecDepth 100000 in
set_option maxHeartbeats 2000000 in
theorem deleteFunc_c (B g cap : Nat) (p : Int → Bool) (zs : List Int) (cur : Array Value) (w : World) (hg : w.heap[g]? = some (.cells cur 3 (0, 0))) (hcs : cur.size = cap) (hcur : ∀ j, (h : j < zs.length) → cur[j]? = some (.int .i64 (zs[j]))) (hn : zs.length ≤ cap) (hcap : cap ≤ 9223372036854775807)
    (hz : ∀ x, x ∈ zs → -9223372036854775808 ≤ x ∧ x ≤ 9223372036854775807) (hp : PredC 42 #[.pointer (some ⟨B, 0, none⟩)] p g w) :
    Calls Try.prog 41 #[.slice (some ⟨g, 0, none⟩) zs.length cap, .func (.func 42) #[] #[.pointer (some ⟨B, 0, none⟩)]] w (Deleted p zs g cap w) := by
  have cI := indexFunc_c B g zs.length cap p zs cur w hg rfl hcur (by omega) hz hp
  rcases idxP_cases p zs with ⟨hi, h0⟩ | ⟨k, hk, hi, h1, h0⟩
  · rw [hi] at cI
    have hD : Deleted p zs g cap w (.returned (.slice (some ⟨g, 0, none⟩) zs.length cap)) w :=
      ⟨by rw [keepP_all h0], Fr.refl _ _, cur, hcs, hg, by rw [keepP_all h0]; exact hcur⟩
    have CI := Lib.hid cI; have HD := Lib.hid hD
    clear cI hD hg hcs hcur hz hp hi h0
    go_enter Try.func41, Try.ntmps41
    go_wp2_with (go_at_call 48; refine CI.out.mono ?_; rintro e w' ⟨rfl, rfl⟩)
    go_ret
    exact HD.out
  · rw [hi] at cI
    have hd0 : DelAt p zs cap (k + 1) cur := by
      refine ⟨hcs, ?_, fun j hj _ => hcur j hj⟩
      have e : keepP p (zs.take (k + 1)) = zs.take k := by
        rw [take_snocI zs k hk, keepP_snoc, h1, keepP_all (fun j hj => by
          have : j < k := by simp at hj; omega
          simpa using h0 j this)]
        simp
      rw [e]
      intro j hj
      simp only [List.length_take] at hj
      rw [hcur j (by omega)]
      simp
    have hlk : (keepP p (zs.take (k + 1))).length = k := by
      rw [take_snocI zs k hk, keepP_snoc, h1, keepP_all (fun j hj => by
          have : j < k := by simp at hj; omega
          simpa using h0 j this)]
      simp; omega
    clear hcur h0 h1 hi
    generalize hlen : zs.length = n at hn cI hk ⊢
    have Hlen := Lib.hid hlen
    have CI := Lib.hid cI; have Hg := Lib.hid hg; have HD0 := Lib.hid hd0; have Hz := Lib.hid hz; have Hp := Lib.hid hp; have Hlk := Lib.hid hlk; have Hcs := Lib.hid hcs
    clear cI hg hd0 hz hp hlk hcs
    have hk1 : ((k : Int) == -1) = false := by rw [beq_eq_false_iff_ne]; omega
    clear hlen
    go_enter Try.func41, Try.ntmps41
    go_wp2_with (go_at_call 48; refine CI.out.mono ?_; rintro e w' ⟨rfl, rfl⟩)
    go_loopw [5, 6] (fun i j wr => ∃ (i' j' : Nat) (cu : Array Value), j' ≤ n ∧ i' < j' ∧ i = .int .i64 i' ∧ j = .int .i64 j' ∧ Hid ((keepP p (zs.take j')).length = i') ∧ Hid (DelAt p zs cap j' cu) ∧ Hid (wr.heap[g]? = some (.cells cu 3 (0, 0))) ∧ Fr [g] w wr) (fun _ j _ => n - (intOf j).toNat)
    case atStart => exact ⟨k, k + 1, cur, by omega, by omega, rfl, by go_num, Hlk, HD0, Hg, Fr.refl _ _⟩
    case round =>
      obtain ⟨i, j, cu, hjn, hij, rfl, rfl, HL, HD, HH, hfr⟩ := hrel
      by_cases hlt : j < n
      · have hlz : j < zs.length := by rw [Hlen.out]; exact hlt
        have hc : wr.cell? ⟨g, j, none⟩ = some (.int .i64 zs[j]) := (cell_of_blk HH.out j).trans (HD.out.rest j hlz (Nat.le_refl _))
        have hci : ∃ v, wr.cell? ⟨g, i, none⟩ = some v := by
          rw [cell_of_blk HH.out]
          have : i < cu.size := by rw [HD.out.size]; omega
          exact ⟨cu[i], by simp [this]⟩
        obtain ⟨vi, hci⟩ := hci
        have hfi := free_of_blk HH.out i
        have hzj := Hz.out zs[j] (List.getElem_mem hlz)
        have hpc := Hp.out zs[j] wr hzj.1 hzj.2 hfr
        generalize hx : zs[j] = x at *
        have Hx := Lib.hid hx; clear hx
        cases hb : p x with
        | true =>
          rw [hb] at hpc
          have Hpc := Lib.hid hpc; have Hb := Lib.hid hb; clear hpc hb
          go_wp2_with (go_at_call 42; refine Hpc.out.mono ?_; rintro e w' ⟨rfl, rfl⟩)
          go_roundw
          case rel =>
            have hpz : p (zs[j]'hlz) = true := by rw [Hx.out]; exact Hb.out
            refine ⟨i, j + 1, cu, by omega, by omega, rfl, by go_num, ?_, Lib.hid (HD.out.skip hlz hpz), HH, hfr⟩
            exact Lib.hid (by rw [take_snocI zs j hlz, keepP_snoc, hpz]; simpa using HL.out)
          case measure => simp [intOf]; omega
        | false =>
          rw [hb] at hpc
          have Hpc := Lib.hid hpc; have Hb := Lib.hid hb; clear hpc hb
          go_wp2_with (go_at_call 42; refine Hpc.out.mono ?_; rintro e w' ⟨rfl, rfl⟩)
          go_roundw
          case rel =>
            have hpz : p (zs[j]'hlz) = false := by rw [Hx.out]; exact Hb.out
            refine ⟨i + 1, j + 1, _, by omega, by omega, by go_num, by go_num, ?_, Lib.hid (HD.out.put hlz (by rw [Hlen.out]; exact hn) hpz), Lib.hid ?_, hfr.trans (Fr.setCell _ _ (by simp))⟩
            · exact Lib.hid (by rw [take_snocI zs j hlz, keepP_snoc, hpz]; simpa using HL.out)
            · rw [heap_setCell_same _ HH.out, HL.out, Hx.out]
          case measure => simp [intOf]; omega
      · obtain rfl : j = n := by omega
        have hine : ¬ cap = i := by omega
        have hil : i ≤ j := by omega
        go_wp2_with ((with_reducible refine wpList_of_wp (o := ⟨none, .call _, _, _, _, _⟩) rfl (fun K hK => ?_)); refine (wp_clear_off (.tmp 38) 37 3 _ rfl Try.underlying37 zeroI (by simp [Value.cells, Value.oneCell']) g i (j - i) (cap - i) cu 3 rfl HH.out (by rw [HD.out.size]; simp [Value.cells]; omega) (by simp [Value.cells]) (fun cs hcs hck => hK _ _ ?_)); have HC := Lib.hid hcs; have HK := Lib.hid hck; clear hcs hck hK K)
        go_ret
        have hz : zs.take j = zs := List.take_of_length_le (by rw [Hlen.out]; exact Nat.le_refl _)
        have hl := HL.out
        have hkp := HD.out.kept
        rw [hz] at hl hkp
        refine ⟨by rw [hl]; rfl, hfr.trans (Fr.setRow _ _ (by simp)), cs, by rw [HC.out, HD.out.size], setRow_heap _ _ _ _ _ _ HH.out, ?_⟩
        intro q hq
        rw [HK.out q (by omega)]
        exact hkp q hq

end Go.Proofs.Ytanjjgodlgmfcaa
