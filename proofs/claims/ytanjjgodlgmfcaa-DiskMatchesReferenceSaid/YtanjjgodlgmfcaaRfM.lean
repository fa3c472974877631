/-
  The reference's disk in memory, and its small helpers apply and has.
-/
import Derived.Test.YtanjjgodlgmfcaaL9f
import Derived.Test.YtanjjgodlgmfcaaApp
namespace Go.Proofs.Ytanjjgodlgmfcaa
open Go.RowKit Go.Lib

structure RfIn (w : World) (b : Nat) (sv pv : Value) (D : Dk) : Prop where
  ok : D.Ok
  coh : D.coh
  str : w.heap[b]? = some (.cells #[sv, pv, .bool D.off, .int .i64 D.left] 43 (0, 0))
  sure : w.ownsRow 0 5 1 sv D.dur.length (byteCells D.dur)
  pend : w.ownsRow 0 80 2 pv D.pend.length (pendC D.pend)
  nes : ∀ g, sv.ownBlock = some g → g ≠ b
  nep : ∀ g, pv.ownBlock = some g → g ≠ b ∧ sv.ownBlock ≠ some g

def RfA (w : World) (b : Nat) (fp : List Nat) (D : Dk) : Prop := ∃ sv pv, RfIn w b sv pv D ∧ fp = b :: (sv.ownBlock.toList ++ pv.ownBlock.toList)

theorem RfIn.fp_lt {w : World} {b : Nat} {sv pv : Value} {D : Dk} (h : RfIn w b sv pv D) : ∀ k, k ∈ b :: (sv.ownBlock.toList ++ pv.ownBlock.toList) → k < w.heap.size := by
  intro k hk
  simp only [List.mem_cons, List.mem_append, Option.mem_toList] at hk
  rcases hk with rfl | hk | hk
  · exact blk_lt h.str
  · exact ownsRow_lt h.sure hk
  · exact ownsRow_lt h.pend hk
theorem RfIn.keep {w w' : World} {b : Nat} {sv pv : Value} {D : Dk} (h : RfIn w b sv pv D) (hk : ∀ k, k ∈ b :: (sv.ownBlock.toList ++ pv.ownBlock.toList) → w'.heap[k]? = w.heap[k]?) : RfIn w' b sv pv D :=
  { h with
    str := (hk b (by simp)).trans h.str
    sure := ownsRow_keep h.sure fun g hg => hk g (by simp [hg])
    pend := ownsRow_keep h.pend fun g hg => hk g (by simp [hg]) }
theorem RfA.lt {w : World} {b : Nat} {fp : List Nat} {D : Dk} (h : RfA w b fp D) : ∀ k, k ∈ fp → k < w.heap.size := by
  obtain ⟨sv, pv, h, rfl⟩ := h
  exact h.fp_lt
theorem RfA.keep {w w' : World} {b : Nat} {fp S : List Nat} {D : Dk} (h : RfA w b fp D) (hf : Fr S w w') (hd : ∀ k, k ∈ fp → k ∉ S) : RfA w' b fp D := by
  have hlt := h.lt
  obtain ⟨sv, pv, h, rfl⟩ := h
  exact ⟨sv, pv, h.keep fun k hk => hf.block k (hlt k hk) (hd k hk), rfl⟩

/-- A cell of a row of one-cell elements is written. -/
theorem row_set1 {w : World} {e : TypeId} {g n cap : Nat} {xs : List Value} {i : Nat} (v : Value) (h : w.ownsRow 0 e 1 (.slice (some ⟨g, 0, none⟩) n cap) n xs) (_hi : i < n) : (w.setCell ⟨g, i, none⟩ v).ownsRow 0 e 1 (.slice (some ⟨g, 0, none⟩) n cap) n (xs.set i v) := by
  obtain ⟨h1, h2⟩ := h
  refine ⟨by simpa using h1, ?_⟩
  rcases h2 with ⟨h2, _⟩ | ⟨g', cap', cur, hv, hb, hg, r1, r2, r3, r4⟩
  · cases h2
  · cases hv
    refine .inr ⟨g, cap, cur.setIfInBounds i v, rfl, hb, heap_setCell_same _ hg, r1, r2, by simpa using r3, ?_⟩
    rw [← r4, Array.toList_setIfInBounds, List.take_set]

theorem row_cell1 {w : World} {e : TypeId} {g n cap : Nat} {xs : List Value} {i : Nat} (h : w.ownsRow 0 e 1 (.slice (some ⟨g, 0, none⟩) n cap) n xs) (hi : i < n) : w.cell? ⟨g, i, none⟩ = xs[i]? ∧ w.frozen? ⟨g, i, none⟩ = false := by
  obtain ⟨h1, h2⟩ := h
  rcases h2 with ⟨h2, _⟩ | ⟨g', cap', cur, hv, hb, hg, r1, r2, r3, r4⟩
  · cases h2
  · cases hv
    refine ⟨?_, free_of_blk hg i⟩
    rw [cell_of_blk hg, ← r4, List.getElem?_take_of_lt (by omega)]
    simp

set_option maxRecDepth 100000 in
set_option maxHeartbeats 800000 in
theorem rapply_c (g n cap o : Nat) (s : ByteArray) (l : List UInt8) (w : World) (hb : w.ownsRow 0 5 1 (.slice (some ⟨g, 0, none⟩) n cap) n (byteCells l)) (ho : o + s.size ≤ n) (hn : n ≤ 4194304) :
    Calls Try.prog 44 #[.slice (some ⟨g, 0, none⟩) n cap, .int .i64 o, .string s] w fun e w' => e = .returned (.tuple #[]) ∧ Fr [g] w w' ∧ w'.ownsRow 0 5 1 (.slice (some ⟨g, 0, none⟩) n cap) n (byteCells (paste l o s.data.toList)) := by
  have hl : l.length = n := by have := hb.1; simpa [byteCells_length] using this
  have Hb := Lib.hid hb; have Hl := Lib.hid hl; clear hb hl
  go_enter Try.func44, Try.ntmps44
  go_wp2
  go_loopw [6] (fun i wr => ∃ k : Nat, k ≤ s.size ∧ i = .int .i64 k ∧ Fr [g] w wr ∧ Hid (wr.ownsRow 0 5 1 (.slice (some ⟨g, 0, none⟩) n cap) n (byteCells (paste l o (s.data.toList.take k))))) (fun i _ => s.size - (intOf i).toNat)
  case atStart => exact ⟨0, Nat.zero_le _, rfl, Fr.refl _ _, Lib.hid (by simpa [paste_nil] using Hb.out)⟩
  case round =>
    obtain ⟨k, hk, rfl, hf, HB⟩ := hrel
    by_cases hlt : k < s.size
    · have hpl : (paste l o (s.data.toList.take k)).length = n := by
        rw [paste_length _ _ _ (by rw [Hl.out]; simp; omega), Hl.out]
      have hrc := row_cell1 HB.out (show o + k < n by omega)
      have hci : ∃ v, wr.cell? ⟨g, o + k, none⟩ = some v := by
        rw [hrc.1]
        exact ⟨_, List.getElem?_eq_getElem (by simp [byteCells_length, hpl]; omega)⟩
      obtain ⟨vi, hci⟩ := hci
      have hfi := hrc.2
      clear hpl hrc
      go_wp2
      go_roundw
      case rel =>
        refine ⟨k + 1, by omega, by go_num, hf.trans (Fr.setCell _ _ (by simp)), Lib.hid ?_⟩
        have hks : k < s.data.toList.length := by simpa using hlt
        have h1 := row_set1 (i := o + k) (.int .u8 (s.data.toList[k]).toNat) HB.out (by omega)
        rw [← paste_step l o s.data.toList k hks (by rw [Hl.out]; simpa using ho)]
        rw [byteCells, List.map_set]
        exact h1
      case measure => simp [intOf]; omega
    · obtain rfl : k = s.size := by omega
      go_wp2
      go_end0
      refine ⟨rfl, hf, ?_⟩
      have := HB.out
      rwa [List.take_of_length_le (by simp)] at this

set_option maxRecDepth 100000 in
set_option maxHeartbeats 800000 in
theorem rhas_c (a : Option Addr) (cap : Nat) (zs : List Int) (n : Int) (w : World) (hr : RowI w a cap zs) :
    Calls Try.prog 43 #[.slice a zs.length cap, .int .i64 n] w fun e w' => e = .returned (.bool (zs.contains n)) ∧ w = w' := by
  have hlm : zs.length ≤ 9223372036854775807 := Nat.le_trans hr.le hr.max
  have HR := Lib.hid hr; clear hr
  obtain ⟨bb, hbb⟩ : ∃ bb, bb = zs.contains n := ⟨_, rfl⟩
  rw [← hbb]
  have HBB := Lib.hid hbb; clear hbb
  go_enter Try.func43, Try.ntmps43
  go_wp2
  go_loopw [5] (fun i wr => ∃ k : Nat, k ≤ zs.length ∧ i = .int .i64 k ∧ w = wr ∧ Hid ((zs.take k).contains n = false)) (fun i _ => zs.length - (intOf i).toNat)
  case atStart => exact ⟨0, Nat.zero_le _, rfl, rfl, Lib.hid (by simp)⟩
  case round =>
    obtain ⟨k, hk, rfl, rfl, HC⟩ := hrel
    by_cases hlt : k < zs.length
    · obtain ⟨b', off', ha, hb', hcs⟩ := HR.out.cells (by omega)
      subst ha
      have e0 := hcs k hlt
      have hw := HR.out.wf _ (List.getElem_mem hlt)
      have ht : Hid (zs.take (k + 1) = zs.take k ++ [zs[k]]) := Lib.hid (take_snocI zs k hlt)
      have hm : Hid (zs[k] = n → zs.contains n = true) := Lib.hid fun h => by simp [← h]
      clear hcs
      generalize zs[k] = x at *
      by_cases hx : x = n
      · subst hx
        obtain rfl : bb = true := HBB.out.trans (hm.out rfl)
        clear hm HBB
        go_wp2
        go_ret
        exact ⟨rfl, rfl⟩
      · go_wp2
        go_roundw
        case rel =>
          refine ⟨k + 1, by omega, by go_num, by first | rfl | trivial, Lib.hid ?_⟩
          rw [ht.out]
          have := HC.out
          simp at this ⊢
          exact ⟨this, fun h => hx h.symm⟩
        case measure => simp [intOf]; omega
    · obtain rfl : k = zs.length := by omega
      have hc := HC.out
      rw [List.take_length] at hc
      obtain rfl : bb = false := HBB.out.trans hc
      clear hc HBB
      go_wp2
      go_ret
      exact ⟨rfl, rfl⟩

end Go.Proofs.Ytanjjgodlgmfcaa
