/-
  slices.Sort and slices.Compact at []int over owned rows; sorting and striking out doubles, plainly.
-/
import Derived.Test.YtfidioedjmjddaaGreatQStC
import Derived.Test.YtfidioedjmjddaaGreatShelf
import Derived.Sort.OwnSortedInts
import Derived.Lib.RowBridge
namespace Go.Proofs.YtfidioedjmjddaaGreat
open Go.RowKit Go.Lib Go.Sort

def sortZ (zs : List Int) : List Int := zs.mergeSort fun x y => decide (x ≤ y)
theorem sortZ_length (zs : List Int) : (sortZ zs).length = zs.length := by simp [sortZ]

theorem sort_row (v : Value) (zs : List Int) (w : World) (h : w.ownsRow 0 3 1 v zs.length (intC zs)) (hl : zs.length ≤ 1000001) :
    Calls Tryz.prog 65 #[v] w fun e w' => e = .returned (.tuple #[]) ∧ w'.ownsRow 0 3 1 v zs.length (intC (sortZ zs)) ∧ Fr v.ownBlock.toList w w' := by
  rcases h.2 with ⟨rfl, hz⟩ | ⟨gb, cap, cur, rfl, hbase, hgb, r1, r2, r3, r4⟩
  · have hss : zs = [] := List.eq_nil_of_length_eq_zero hz
    subst hss
    refine (Tryz.slices_Sort_int_none none 0 w).mono ?_
    rintro e w' ⟨rfl, rfl⟩
    exact ⟨rfl, by simpa [sortZ] using h, Fr.refl _ _⟩
  · have hgl : gb < w.heap.size := (Array.getElem?_eq_some_iff.1 hgb).1
    have hH : Holds (Value.int .i64) w gb 0 zs.toArray := holds_of_blockI hgb (by simpa using r4)
    refine (Tryz.slices_Sort_int gb 0 cap zs w hH hgl (by omega)).mono ?_
    rintro e w' ⟨rfl, nn, os, rfl⟩
    exact ⟨rfl, ownsRow_sortedI (sortZ_length zs) hbase hgb r1 r2 r3, Fr.grown (grownBy_sortedI _) fun k hk => by cases hk; simp [Value.ownBlock]⟩

theorem compact_row (v : Value) (ys : List Int) (w : World) (h : w.ownsRow 0 3 1 v ys.length (intC ys)) :
    Calls Tryz.prog 66 #[v] w fun e w' => ∃ v', e = .returned v' ∧ w'.ownsRow 0 3 1 v' (Lib.compact ys).length (intC (Lib.compact ys)) ∧ v'.ownBlock = v.ownBlock ∧ Fr v.ownBlock.toList w w' := by
  rcases h.2 with ⟨rfl, hz⟩ | ⟨gb, cap, cur, rfl, hbase, hgb, r1, r2, r3, r4⟩
  · have hss : ys = [] := List.eq_nil_of_length_eq_zero hz
    subst hss
    refine (Tryz.slices_Compact_int_empty none 0 w).mono ?_
    rintro e w' ⟨rfl, rfl⟩
    exact ⟨_, rfl, ⟨rfl, .inl ⟨rfl, rfl⟩⟩, rfl, Fr.refl _ _⟩
  · have hH : Holds (Value.int .i64) w gb 0 ys.toArray := holds_of_blockI hgb (by simpa using r4)
    refine (Tryz.slices_Compact_int gb 0 cap ys w hH (Nat.le_trans r1 r2) r1).mono ?_
    rintro e w' ⟨rfl, q, rfl⟩
    have hcl : (Lib.compact ys).length ≤ ys.length := compact_length_le ys
    generalize hts : Lib.compact ys ++ List.replicate (ys.length - (Lib.compact ys).length) 0 = ts
    have hl : ts.length = ys.length := by rw [← hts]; simp; omega
    have ho := ownsRow_sortedI (n := q) (os := #[]) hl hbase hgb r1 r2 r3
    have hf := grownBy_sortedI (w := w) (g := gb) (n := q) (os := #[]) ts.toArray
    rw [grow_empty] at ho hf
    refine ⟨_, rfl, ?_, rfl, Fr.grown hf fun k hk => by cases hk; simp [Value.ownBlock]⟩
    rcases ho.2 with ⟨h0, _⟩ | ⟨g', cap', cur', hv, _, hg', s1, s2, s3, s4⟩
    · cases h0
    · cases hv
      refine ⟨by simp, .inr ⟨gb, cap, cur', rfl, Nat.zero_le _, hg', by omega, s2, s3, ?_⟩⟩
      have e1 : cur'.toList.take ((Lib.compact ys).length * 1) = (cur'.toList.take (ys.length * 1)).take (Lib.compact ys).length := by
        rw [List.take_take, Nat.mul_one, Nat.mul_one, Nat.min_eq_left hcl]
      rw [e1, s4, ← hts, List.map_append, List.take_left' (by simp)]

/-! ### plainly -/
theorem sortedU : ∀ {a b : List Int}, a.Pairwise (· ≤ ·) → b.Pairwise (· ≤ ·) → a.Perm b → a = b
  | [], b, _, _, h => by simpa using h.symm
  | x :: a, [], _, _, h => by simp at h
  | x :: a, y :: b, ha, hb, h => by
    have hx : x ∈ y :: b := h.subset (by simp)
    have hy : y ∈ x :: a := h.symm.subset (by simp)
    have e : x = y := by
      rcases List.mem_cons.1 hx with e | hx
      · exact e
      · rcases List.mem_cons.1 hy with e | hy
        · exact e.symm
        · have h1 := (List.pairwise_cons.1 ha).1 y hy
          have h2 := (List.pairwise_cons.1 hb).1 x hx
          omega
    subst e
    rw [sortedU (List.pairwise_cons.1 ha).2 (List.pairwise_cons.1 hb).2 (List.perm_cons x |>.1 h)]

theorem cptSorted {zs : List Int} (h : zs.Pairwise (· ≤ ·)) : ∀ m, m ≤ zs.length → (compactUpTo zs.toArray m).Pairwise (· < ·) ∧ ∀ x, x ∈ compactUpTo zs.toArray m ↔ x ∈ zs.take m := by
  intro m
  induction m with
  | zero => intro _; simp [compactUpTo]
  | succ m ih =>
    intro hm
    obtain ⟨h1, h2⟩ := ih (by omega)
    have hg : zs.toArray[m]! = zs[m] := by rw [getElem!_pos zs.toArray m (by simp; omega)]; simp
    have ht : zs.take (m + 1) = zs.take m ++ [zs[m]] := List.take_succ_eq_append_getElem (by omega)
    rw [compactUpTo_succ, hg, ht]
    cases hk : keeps zs.toArray m with
    | true =>
      simp only [if_true]
      refine ⟨List.pairwise_append.2 ⟨h1, by simp, fun x hx y hy => ?_⟩, fun x => by rw [List.mem_append, List.mem_append, h2 x]⟩
      simp only [List.mem_singleton] at hy
      subst hy
      have hx2 := (h2 x).1 hx
      obtain ⟨j, hj, rfl⟩ := List.getElem_of_mem hx2
      simp only [List.length_take] at hj
      have hm0 : 0 < m := by omega
      rw [List.getElem_take]
      have hl : zs[j] ≤ zs[m - 1] := by
        rcases Nat.lt_or_ge j (m - 1) with h3 | h3
        · exact List.pairwise_iff_getElem.1 h j (m - 1) (by omega) (by omega) h3
        · have : j = m - 1 := by omega
          subst this
          exact Int.le_refl _
      have hl2 : zs[m - 1] ≤ zs[m] := List.pairwise_iff_getElem.1 h (m - 1) m (by omega) (by omega) (by omega)
      have hne : zs[m] ≠ zs[m - 1] := by
        have hg1 : zs.toArray[m - 1]! = zs[m - 1] := by rw [getElem!_pos zs.toArray (m - 1) (by simp; omega)]; simp
        simp only [keeps, hg, hg1, decide_eq_true_eq] at hk
        rcases hk with hk | hk
        · omega
        · exact hk
      omega
    | false =>
      simp only [Bool.false_eq_true, if_false, List.append_nil]
      refine ⟨h1, fun x => ?_⟩
      rw [h2 x]
      have hm0 : 0 < m := by
        rcases Nat.eq_zero_or_pos m with h0 | h0
        · rw [h0] at hk; simp [keeps] at hk
        · exact h0
      have hg1 : zs.toArray[m - 1]! = zs[m - 1] := by rw [getElem!_pos zs.toArray (m - 1) (by simp; omega)]; simp
      simp only [keeps, hg, hg1, decide_eq_false_iff_not, not_or, Classical.not_not] at hk
      constructor
      · intro hx; exact List.mem_append_left _ hx
      · intro hx
        rcases List.mem_append.1 hx with hx | hx
        · exact hx
        · simp only [List.mem_singleton] at hx
          rw [hx, hk.2]
          refine List.mem_iff_getElem.2 ⟨m - 1, by simp; omega, by simp⟩

theorem sortZ_sorted (zs : List Int) : (sortZ zs).Pairwise (· ≤ ·) := by
  have := List.pairwise_mergeSort (le := fun (x y : Int) => decide (x ≤ y)) (fun a b c h1 h2 => by simp at *; omega) (fun a b => by simp; omega) zs
  exact this.imp fun h => by simpa using h
theorem cs_sorted (zs : List Int) : (Lib.compact (sortZ zs)).Pairwise (· < ·) := (cptSorted (sortZ_sorted zs) _ (Nat.le_refl _)).1
theorem cs_mem {zs : List Int} {x : Int} : x ∈ Lib.compact (sortZ zs) ↔ x ∈ zs := by
  rw [Lib.compact, (cptSorted (sortZ_sorted zs) _ (Nat.le_refl _)).2 x, List.take_length]
  exact (List.mergeSort_perm _ _).mem_iff
/-- Two strictly ascending lists of the same members are one. -/
theorem strictU {a b : List Int} (ha : a.Pairwise (· < ·)) (hb : b.Pairwise (· < ·)) (h : ∀ x, x ∈ a ↔ x ∈ b) : a = b :=
  sortedU (ha.imp fun h => by omega) (hb.imp fun h => by omega) ((List.perm_ext_iff_of_nodup (ha.imp fun h => by omega) (hb.imp fun h => by omega)).2 h)

theorem insI_mem {l : List Int} {x y : Int} : y ∈ insI l x ↔ y ∈ l ∨ y = x := by
  induction l with
  | nil => simp [insI]
  | cons a l ih =>
    unfold insI
    split
    · simp only [List.mem_cons]
      constructor
      · rintro (h | h | h) <;> simp [h]
      · rintro ((h | h) | h) <;> simp [h]
    · split
      · rename_i h1 h2
        subst h2
        simp only [List.mem_cons]
        constructor
        · rintro (h | h) <;> simp [h]
        · rintro ((h | h) | h) <;> simp [h]
      · simp only [List.mem_cons, ih]
        constructor
        · rintro (h | h | h) <;> simp [h]
        · rintro ((h | h) | h) <;> simp [h]
theorem insI_sorted {l : List Int} {x : Int} (h : l.Pairwise (· < ·)) : (insI l x).Pairwise (· < ·) := by
  induction l with
  | nil => simp [insI]
  | cons a l ih =>
    obtain ⟨h1, h2⟩ := List.pairwise_cons.1 h
    unfold insI
    split
    · rename_i hx
      exact List.pairwise_cons.2 ⟨fun y hy => by
        rcases List.mem_cons.1 hy with rfl | hy
        · exact hx
        · have := h1 y hy; omega, h⟩
    · split
      · exact h
      · rename_i hx1 hx2
        exact List.pairwise_cons.2 ⟨fun y hy => by
          rcases insI_mem.1 hy with hy | rfl
          · exact h1 y hy
          · omega, ih h2⟩
theorem insI_cs {l : List Int} {x : Int} (h : l.Pairwise (· < ·)) : Lib.compact (sortZ (l ++ [x])) = insI l x :=
  strictU (cs_sorted _) (insI_sorted h) fun y => by rw [cs_mem, insI_mem]; simp
theorem insI_last {l : List Int} {x : Int} (h : ∀ y, y ∈ l → y < x) : insI l x = l ++ [x] := by
  induction l with
  | nil => rfl
  | cons a l ih =>
    have := h a (by simp)
    unfold insI
    rw [if_neg (by omega), if_neg (by omega), ih fun y hy => h y (by simp [hy])]
    rfl

/-- insert. -/
theorem infoI8 : (Tryz.prog.info? 3).map (fun i => (i.zero, i.size, i.bytes)) = some (some (.int .i64 0), 1, 8) := by kernel_rfl

set_option maxRecDepth 100000 in
set_option maxHeartbeats 1000000 in
theorem insert_c (v sv : Value) (xs : List Int) (x : Int) (w : World) (h : w.ownsRow 0 3 1 v xs.length (intC xs)) (hx : SrcAt w sv 1 [.int .i64 x]) (hso : xs.Pairwise (· < ·)) (hlen : xs.length ≤ 1000000) :
    Calls Tryz.prog 51 #[v, sv] w fun e w' => ∃ v', e = .returned v' ∧ w'.ownsRow 0 3 1 v' (insI xs x).length (intC (insI xs x)) ∧ Fr v.ownBlock.toList w w' ∧ ∀ g, v'.ownBlock = some g → v.ownBlock = some g ∨ w.heap.size ≤ g := by
  have H := Lib.hid h; have HX := Lib.hid hx; clear h hx
  have HI := Lib.hid (insI_cs (x := x) hso)
  go_enter Tryz.func51, Tryz.ntmps51
  go_wp2_with (first | ((with_reducible refine wpList_of_wp (o := ⟨some 7, _, _, _, _, _⟩) rfl (fun K hK => ?_)); refine wp_append_src (.tmp 5) (.tmp 6) 48 3 (.int .i64 0) 1 8 rfl Tryz.underlying48 infoI8 rfl (by decide) v xs.length (intC xs) rfl H.out sv 1 [.int .i64 x] rfl HX.out rfl (by simp [Value.oneCell']) (by omega) (by omega) (fun ga cap2 w9 x1 x2 x3 => hK _ _ ?_); have X1 := Lib.hid x1; have X2 := Lib.hid x2; have X3 := Lib.hid x3; clear x1 x2 x3 hK K) | (go_at_call 65; refine (sort_row _ (xs ++ [x]) _ (by simpa using X1.out) (by simp; omega)).mono ?_; rintro e w2 ⟨rfl, y1, y2⟩; have Y1 := Lib.hid y1; have Y2 := Lib.hid y2; clear y1 y2) | (go_at_call 66; refine (compact_row _ (sortZ (xs ++ [x])) _ (by rw [sortZ_length]; simpa using Y1.out)).mono ?_; rintro e w3 ⟨v3, rfl, z1, z2, z3⟩; have Z1 := Lib.hid z1; have Z2 := Lib.hid z2; have Z3 := Lib.hid z3; clear z1 z2 z3))
  go_ret
  have hb : ∀ g, g ∈ (Value.slice ga (xs.length + 1) cap2).ownBlock.toList → g ∈ v.ownBlock.toList ∨ w.heap.size ≤ g := fun g hg => by
    simp only [Option.mem_toList] at hg ⊢
    rcases X3.out with h | h
    · exact .inl (by rw [← h]; exact hg)
    · rw [h] at hg; cases hg; exact .inr (Nat.le_refl _)
  refine ⟨v3, rfl, by rw [← HI.out]; exact Z1.out, (X2.out.step Y2.out hb).step Z3.out hb, fun g hg => ?_⟩
  rw [Z2.out] at hg
  have := hb g (by simpa using hg)
  simpa using this

end Go.Proofs.YtfidioedjmjddaaGreat
