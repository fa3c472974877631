/-
  The library's slices.Collect, slices.Sorted, slices.Compact at []int, as Crash uses them.
-/
import Derived.Test.YtanjjgodlgmfcaaSlI
import Derived.Test.YtanjjgodlgmfcaaSlD
import Derived.Test.YtanjjgodlgmfcaaShelf
import Derived.Sort.OwnSortedInts
import Derived.Lib.RowBridge
namespace Go.Proofs.Ytanjjgodlgmfcaa
open Go.RowKit Go.Lib Go.Sort

def sortI (zs : List Int) : List Int := zs.mergeSort fun x y => decide (x ≤ y)
theorem sortI_length (zs : List Int) : (sortI zs).length = zs.length := by simp [sortI]

set_option maxRecDepth 100000 in
set_option maxHeartbeats 1000000 in
theorem collect_c (g : Nat) (lb : Array Value) (zs : List Int) (w : World) (eg : ∀ args w, (callFunc g args).run Try.prog w = .ok (.enter g args) w) (hlen : zs.length ≤ maxLen) (hbytes : zs.length * 8 ≤ 140737488355328) (n₀ : Nat) (hn₀ : n₀ ≤ w.heap.size)
    (hseq : SeqStopsK Fence.wide 9 Try.prog g lb (fun x : Int => #[Value.int .i64 x]) (Below n₀) (fun ys => ys = zs) (fun pre => pre <+: zs) zs.length w) :
    Calls Try.prog 45 #[.func (.func g) #[] lb] w fun e W' => ∃ v, e = .returned v ∧ W'.ownsRow w.heap.size 3 1 v zs.length (zs.map (Value.int .i64)) ∧ (v = .slice none 0 0 ↔ zs = []) ∧ Below w.heap.size w W' := by
  have hA := Lib.hid (callsIn_wide.1 (appendSeq_in Fence.wide 10 trivial rfl (by omega) g lb trivial eg zs n₀ hlen hbytes w hn₀ hseq))
  clear hseq eg
  go_enter Try.func45, Try.ntmps45
  go_wp2_with (go_at_call 49; refine hA.out.mono ?_; rintro e w' ⟨v, rfl, h1, h2, h3⟩; have H1 := Lib.hid h1; have H2 := Lib.hid h2; have H3 := Lib.hid h3; clear h1 h2 h3)
  go_ret
  exact ⟨v, rfl, H1.out, H2.out, H3.out⟩

set_option maxRecDepth 100000 in
set_option maxHeartbeats 1000000 in
theorem sorted_c (g : Nat) (lb : Array Value) (zs : List Int) (w : World) (eg : ∀ args w, (callFunc g args).run Try.prog w = .ok (.enter g args) w) (hlen : zs.length ≤ maxLen) (hbytes : zs.length * 8 ≤ 140737488355328) (n₀ : Nat) (hn₀ : n₀ ≤ w.heap.size)
    (hseq : SeqStopsK Fence.wide 9 Try.prog g lb (fun x : Int => #[Value.int .i64 x]) (Below n₀) (fun ys => ys = zs) (fun pre => pre <+: zs) zs.length w) :
    Calls Try.prog 39 #[.func (.func g) #[] lb] w fun e W' => ∃ v, e = .returned v ∧ W'.ownsRow w.heap.size 3 1 v zs.length ((sortI zs).map (Value.int .i64)) ∧ (v = .slice none 0 0 ↔ zs = []) ∧ Below w.heap.size w W' := by
  have hA := Lib.hid (collect_c g lb zs w eg hlen hbytes n₀ hn₀ hseq)
  clear hseq eg
  go_enter Try.func39, Try.ntmps39
  go_wp2_with (go_at_call 45; refine hA.out.mono ?_; rintro e w1 ⟨v, rfl, h1, h2, h3⟩; have H1 := Lib.hid h1; have H2 := Lib.hid h2; have H3 := Lib.hid h3; clear h1 h2 h3)
  rcases H1.out.2 with ⟨rfl, hz⟩ | ⟨gb, cap, cur, rfl, hbase, hgb, r1, r2, r3, r4⟩
  · have hss : zs = [] := List.eq_nil_of_length_eq_zero hz
    subst hss
    have hS := Lib.hid (Try.slices_Sort_int_none none 0 w1)
    go_wp2_with (go_at_call 46; refine hS.out.mono ?_; rintro e w' ⟨rfl, rfl⟩)
    go_ret
    exact ⟨.slice none 0 0, rfl, by simpa [sortI] using H1.out, by simp, H3.out⟩
  · have hgl : gb < w1.heap.size := (Array.getElem?_eq_some_iff.1 hgb).1
    have hH : Holds (Value.int .i64) w1 gb 0 zs.toArray := holds_of_blockI hgb (by simpa using r4)
    have hS := Lib.hid (Try.slices_Sort_int gb 0 cap zs w1 hH hgl (by omega))
    have Hgb := Lib.hid hgb; have R1 := Lib.hid r1; have R2 := Lib.hid r2; have R3 := Lib.hid r3; have Hb := Lib.hid hbase
    clear hgb r1 r2 r3 r4 hH hgl hbase
    go_wp2_with (go_at_call 46; refine hS.out.mono ?_; rintro e w' ⟨rfl, nn, os, rfl⟩)
    go_ret
    exact ⟨_, rfl, ownsRow_sortedI (sortI_length zs) Hb.out Hgb.out R1.out R2.out R3.out, H2.out, H3.out.grown (grownBy_sortedI _) H3.out.size (fun j hj => by cases hj; exact Hb.out)⟩

theorem sorted_vals (sv : Value) (zs : List Int) (w : World) (hI : IntsB w.heap.size w sv zs) (hreach : zs.length * 8 ≤ 140737488351232) (hlen : zs.length ≤ 9223372036854775807) :
    Calls Try.prog 39 #[.func (.func 47) #[] #[.pointer (some ⟨w.heap.size, 0, none⟩)]] (w.alloc (.cells #[sv] 37)) fun e W' => ∃ v, e = .returned v ∧ W'.ownsRow (w.heap.size + 1) 3 1 v zs.length ((sortI zs).map (Value.int .i64)) ∧ (v = .slice none 0 0 ↔ zs = []) ∧ Below (w.heap.size + 1) (w.alloc (.cells #[sv] 37)) W' := by
  have h := sorted_c 47 #[.pointer (some ⟨w.heap.size, 0, none⟩)] zs (w.alloc (.cells #[sv] 37)) (enters_of Try.func47 (by kernel_rfl) rfl) hlen (by omega) w.heap.size (by simp)
    (values_stops Fence.wide 9 trivial rfl (by omega) w.heap.size w.heap.size sv zs hreach _ (by simp) (by simp) (cell_of_blk (heap_alloc_new w _) 0) (hI.below ((Below.refl _ w).alloc (Nat.le_refl _) _)))
  simpa using h

theorem compact_c (v : Value) (ys : List Int) (w : World) (h : w.ownsRow 0 3 1 v ys.length (ys.map (Value.int .i64))) :
    Calls Try.prog 38 #[v] w fun e w' => ∃ v', e = .returned v' ∧ w'.ownsRow 0 3 1 v' (Lib.compact ys).length ((Lib.compact ys).map (Value.int .i64)) ∧ v'.ownBlock = v.ownBlock ∧ Fr v.ownBlock.toList w w' := by
  rcases h.2 with ⟨rfl, hz⟩ | ⟨gb, cap, cur, rfl, hbase, hgb, r1, r2, r3, r4⟩
  · have hss : ys = [] := List.eq_nil_of_length_eq_zero hz
    subst hss
    refine (Try.slices_Compact_int_empty none 0 w).mono ?_
    rintro e w' ⟨rfl, rfl⟩
    exact ⟨_, rfl, ⟨rfl, .inl ⟨rfl, rfl⟩⟩, rfl, Fr.refl _ _⟩
  · have hH : Holds (Value.int .i64) w gb 0 ys.toArray := holds_of_blockI hgb (by simpa using r4)
    refine (Try.slices_Compact_int gb 0 cap ys w hH (Nat.le_trans r1 r2) r1).mono ?_
    rintro e w' ⟨rfl, q, rfl⟩
    have hcl : (Lib.compact ys).length ≤ ys.length := compact_length_le ys
    generalize hts : Lib.compact ys ++ List.replicate (ys.length - (Lib.compact ys).length) 0 = ts
    have hl : ts.length = ys.length := by rw [← hts]; simp; omega
    have ho := ownsRow_sortedI (n := q) (os := #[]) hl hbase hgb r1 r2 r3
    have hf := grownBy_sortedI (w := w) (g := gb) (n := q) (os := #[]) ts.toArray
    rw [grow_empty] at ho hf
    refine ⟨_, rfl, ?_, rfl, Fr.grown hf fun k hk => by cases hk; simp [Value.ownBlock]⟩
    rcases ho.2 with ⟨h0, _⟩ | ⟨g', cap', cur', hv, _, hg', s1, s2, s3, s4⟩
    · cases h0
    · cases hv
      refine ⟨by simp, .inr ⟨gb, cap, cur', rfl, Nat.zero_le _, hg', by omega, s2, s3, ?_⟩⟩
      have e1 : cur'.toList.take ((Lib.compact ys).length * 1) = (cur'.toList.take (ys.length * 1)).take (Lib.compact ys).length := by
        rw [List.take_take, Nat.mul_one, Nat.mul_one, Nat.min_eq_left hcl]
      rw [e1, s4, ← hts, List.map_append, List.take_left' (by simp)]

end Go.Proofs.Ytanjjgodlgmfcaa
