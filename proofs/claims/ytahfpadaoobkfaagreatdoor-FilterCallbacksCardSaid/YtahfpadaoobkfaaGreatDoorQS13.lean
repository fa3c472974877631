/-
  statute: Valid, rules.
-/
import Derived.Test.YtahfpadaoobkfaaGreatDoorQS12
import Derived.Test.YtahfpadaoobkfaaGreatDoorShelf
import Derived.Sort.OwnSortedInts
import Derived.Lib.RowBridge
namespace Go.Proofs.YtahfpadaoobkfaaGreatDoor
open Go.RowKit Go.Lib

theorem any_not {α : Type} (l : List α) (q : α → Bool) : l.any (fun x => !q x) = !l.all q := by
  induction l with
  | nil => rfl
  | cons a l ih => simp [List.any_cons, ih]

set_option maxRecDepth 100000 in
theorem cfCl_valid (vc : Value) (ys : List ClV) (w : World) (h : ClsAt w vc ys) (hok : ∀ y, y ∈ ys → ClOk y.x) : Calls Tryz.prog 111 #[vc, .func (.func 112) #[] #[]] w fun e w' => e = .returned (.bool (!(ys.map (·.x)).all clB)) ∧ Fr [] w w' := by
  obtain ⟨a, cap, rfl⟩ := h.sl.val
  refine (cfCl_c 112 #[] (fun _ _ => rfl) a cap ys (fun k => !clB (ys.getD k default).x) (fun _ W => Fr [] w W) w (fun k W hJ => h.sl.same hJ) ?_ (Fr.refl _ _)).mono ?_
  · intro k W hk _ hJ
    have hm : ys.getD k default ∈ ys := by simp [hk]
    refine (valid1_c (ys.getD k default) W ((h.needs _ hm).same hJ) ((h.bars _ hm).same hJ) (hok _ hm)).mono ?_
    rintro e w' ⟨rfl, f⟩
    exact ⟨rfl, hJ.trans f⟩
  · rintro e w' ⟨rfl, k, hJ⟩
    refine ⟨?_, hJ⟩
    rw [anyN_list ys (fun y => !clB y.x) default, any_not]
    simp [List.all_map, Function.comp_def]

set_option maxRecDepth 100000 in
theorem cfRp_valid (vr : Value) (B n : Nat) (a : Option Addr) (cap : Nat) (l : List Rp) (w : World) (h : Sl w vr l.length (l.flatMap rpC)) (hB : w.cell? ⟨B, 0, none⟩ = some (.slice a n cap)) (hn : n ≤ 9223372036854775807) : Calls Tryz.prog 117 #[vr, .func (.func 118) #[] #[.pointer (some ⟨B, 0, none⟩)]] w fun e w' => e = .returned (.bool (!l.all (rpB n))) ∧ Fr [] w w' := by
  obtain ⟨va, vcap, rfl⟩ := h.val
  have hbl := World.block_lt_of_cell? w _ hB
  refine (cfRp_c 118 #[.pointer (some ⟨B, 0, none⟩)] (fun _ _ => rfl) va vcap l (fun k => !rpB n (l.getD k default)) (fun _ W => Fr [] w W) w (fun k W hJ => h.same hJ) ?_ (Fr.refl _ _)).mono ?_
  · intro k W hk _ hJ
    refine (valid2_c (l.getD k default) B n a cap W ((World.cell?_of_block (hJ.block B hbl (by simp))).trans hB) (Nat.lt_of_lt_of_le hbl hJ.size) hn).mono ?_
    rintro e w' ⟨rfl, f⟩
    exact ⟨rfl, hJ.trans f⟩
  · rintro e w' ⟨rfl, k, hJ⟩
    exact ⟨by rw [anyN_list l (fun x => !rpB n x) default, any_not], hJ⟩

set_option maxRecDepth 100000 in
theorem cfFa_valid (vf : Value) (l : List Fa) (w : World) (h : Sl w vf l.length (l.flatMap faC)) : Calls Tryz.prog 119 #[vf, .func (.func 120) #[] #[]] w fun e w' => e = .returned (.bool (!l.all faB)) ∧ Fr [] w w' := by
  obtain ⟨va, vcap, rfl⟩ := h.val
  refine (cfFa_c 120 #[] (fun _ _ => rfl) va vcap l (fun k => !faB (l.getD k default)) (fun _ W => Fr [] w W) w (fun k W hJ => h.same hJ) ?_ (Fr.refl _ _)).mono ?_
  · intro k W hk _ hJ
    refine (valid3_c (l.getD k default) W).mono ?_
    rintro e w' ⟨rfl, f⟩
    exact ⟨rfl, hJ.trans f⟩
  · rintro e w' ⟨rfl, k, hJ⟩
    exact ⟨by rw [anyN_list l (fun x => !faB x) default, any_not], hJ⟩

set_option maxRecDepth 100000 in
set_option maxHeartbeats 4000000 in
theorem valid_c (vc vr vf : Value) (ys : List ClV) (c : Rb) (w : World) (h : RbAt w vc vr vf ys c) : Calls Tryz.prog 89 #[rbV vc vr vf] w fun e w' => e = .returned (.bool (validB c)) ∧ Fr [] w w' := by
  obtain ⟨ac, pc, rfl⟩ := h.cls.sl.val
  obtain ⟨ar, pr, rfl⟩ := h.rps.val
  obtain ⟨af, pf, rfl⟩ := h.fas.val
  have hl1 := h.cls.sl.len
  have hl2 := h.rps.len
  have hl3 := h.fas.len
  have hcl : c.cls.length = ys.length := by rw [h.eq]; simp
  have f0 : Fr [] w (w.alloc (.cells #[.slice ac ys.length pc, .slice ar c.rps.length pr, .slice af c.fas.length pf] 36)) := Fr.alloc _ _ _
  have k0 := heap_alloc_new w (.cells #[.slice ac ys.length pc, .slice ar c.rps.length pr, .slice af c.fas.length pf] 36)
  have C1 := Lib.hid (cfCl_valid _ ys _ (h.same f0).cls (fun y hy => h.ok.cls _ (by rw [h.eq]; exact List.mem_map_of_mem hy)))
  have C2 : Hid (∀ W, Fr [] w W → W.cell? ⟨w.heap.size, 0, none⟩ = some (.slice ac ys.length pc) → Calls Tryz.prog 117 #[.slice ar c.rps.length pr, .func (.func 118) #[] #[.pointer (some ⟨w.heap.size, 0, none⟩)]] W fun e w' => e = .returned (.bool (!c.rps.all (rpB ys.length))) ∧ Fr [] W w') := Lib.hid fun W hf hB => cfRp_valid _ _ _ _ _ _ _ (h.rps.same hf) hB hl1
  have C3 : Hid (∀ W, Fr [] w W → Calls Tryz.prog 119 #[.slice af c.fas.length pf, .func (.func 120) #[] #[]] W fun e w' => e = .returned (.bool (!c.fas.all faB)) ∧ Fr [] W w') := Lib.hid fun W hf => cfFa_valid _ _ _ (h.fas.same hf)
  rw [show (ys.map (·.x)).all clB = c.cls.all clB by rw [← h.eq]] at C1
  have F0 := Lib.hid f0; have K0 := Lib.hid k0
  clear h f0 k0
  unfold validB rbV
  rw [hcl]
  generalize c.cls.all clB = b1 at *
  generalize c.rps.all (rpB ys.length) = b2 at *
  generalize c.fas.all faB = b3 at *
  generalize c.rps.length = n2 at *
  generalize c.fas.length = n3 at *
  by_cases h1 : ys.length ≤ 20
  · by_cases h2 : n2 ≤ 10
    · by_cases h3 : n3 ≤ 20
      · cases b1
        · go_enter Tryz.func89, Tryz.ntmps89
          go_wp2_with (first | (go_at_call 111; refine C1.out.mono ?_; rintro e w1 ⟨rfl, f1⟩; have F1 := Lib.hid (F0.out.trans f1); clear f1))
          go_ret
          exact ⟨by simp, F1.out⟩
        · go_enter Tryz.func89, Tryz.ntmps89
          go_wp2_with fail
          refine C1.out.mono ?_
          rintro e w1 ⟨rfl, f1⟩
          have K1 := Lib.hid (f1.keep K0.out (by simp))
          have F1 := Lib.hid (F0.out.trans f1); clear f1
          have g0 : w1.cell? ⟨w.heap.size, 0, none⟩ = some (.slice ac ys.length pc) := cell_of_blk K1.out 0
          have g1 : w1.cell? ⟨w.heap.size, 1, none⟩ = some (.slice ar n2 pr) := cell_of_blk K1.out 1
          go_wp2_with fail
          refine (C2.out w1 F1.out g0).mono ?_
          rintro e w2 ⟨rfl, f2⟩
          have K2 := Lib.hid (f2.keep K1.out (by simp))
          have F2 := Lib.hid (F1.out.trans f2); clear f2
          have g2 : w2.cell? ⟨w.heap.size, 2, none⟩ = some (.slice af n3 pf) := cell_of_blk K2.out 2
          cases b2
          · go_wp2_with fail
            go_ret
            exact ⟨by simp, F2.out⟩
          · go_wp2_with fail
            refine (C3.out w2 F2.out).mono ?_
            rintro e w3 ⟨rfl, f3⟩
            have F3 := Lib.hid (F2.out.trans f3); clear f3
            go_wp2_with fail
            go_ret
            exact ⟨by simp [h1, h2, h3], F3.out⟩
      · go_enter Tryz.func89, Tryz.ntmps89
        go_wp2_with fail
        go_ret
        exact ⟨by have : ¬ n3 ≤ 20 := by omega
                  simp [this], F0.out⟩
    · go_enter Tryz.func89, Tryz.ntmps89
      go_wp2_with fail
      go_ret
      exact ⟨by have : ¬ n2 ≤ 10 := by omega
                simp, F0.out⟩
  · go_enter Tryz.func89, Tryz.ntmps89
    go_wp2_with fail
    go_ret
    exact ⟨by have : ¬ ys.length ≤ 20 := by omega
              simp, F0.out⟩

end Go.Proofs.YtahfpadaoobkfaaGreatDoor

/-
  slices.Sort and slices.Compact at []int over owned rows; sorting and striking out doubles, plainly.
-/
namespace Go.Proofs.YtahfpadaoobkfaaGreatDoor
open Go.RowKit Go.Lib Go.Sort

def sortZ (zs : List Int) : List Int := zs.mergeSort fun x y => decide (x ≤ y)
theorem sortZ_length (zs : List Int) : (sortZ zs).length = zs.length := by simp [sortZ]

theorem sort_row (v : Value) (zs : List Int) (w : World) (h : w.ownsRow 0 3 1 v zs.length (intC zs)) (hl : zs.length ≤ 1000001) :
    Calls Tryz.prog 171 #[v] w fun e w' => e = .returned (.tuple #[]) ∧ w'.ownsRow 0 3 1 v zs.length (intC (sortZ zs)) ∧ Fr v.ownBlock.toList w w' := by
  rcases h.2 with ⟨rfl, hz⟩ | ⟨gb, cap, cur, rfl, hbase, hgb, r1, r2, r3, r4⟩
  · have hss : zs = [] := List.eq_nil_of_length_eq_zero hz
    subst hss
    refine (Tryz.slices_Sort_int_none none 0 w).mono ?_
    rintro e w' ⟨rfl, rfl⟩
    exact ⟨rfl, by simpa [sortZ] using h, Fr.refl _ _⟩
  · have hgl : gb < w.heap.size := (Array.getElem?_eq_some_iff.1 hgb).1
    have hH : Holds (Value.int .i64) w gb 0 zs.toArray := holds_of_blockI hgb (by simpa using r4)
    refine (Tryz.slices_Sort_int gb 0 cap zs w hH hgl (by omega)).mono ?_
    rintro e w' ⟨rfl, nn, os, rfl⟩
    exact ⟨rfl, ownsRow_sortedI (sortZ_length zs) hbase hgb r1 r2 r3, Fr.grown (grownBy_sortedI _) fun k hk => by cases hk; simp [Value.ownBlock]⟩

theorem compact_row (v : Value) (ys : List Int) (w : World) (h : w.ownsRow 0 3 1 v ys.length (intC ys)) :
    Calls Tryz.prog 172 #[v] w fun e w' => ∃ v', e = .returned v' ∧ w'.ownsRow 0 3 1 v' (Lib.compact ys).length (intC (Lib.compact ys)) ∧ v'.ownBlock = v.ownBlock ∧ Fr v.ownBlock.toList w w' := by
  rcases h.2 with ⟨rfl, hz⟩ | ⟨gb, cap, cur, rfl, hbase, hgb, r1, r2, r3, r4⟩
  · have hss : ys = [] := List.eq_nil_of_length_eq_zero hz
    subst hss
    refine (Tryz.slices_Compact_int_empty none 0 w).mono ?_
    rintro e w' ⟨rfl, rfl⟩
    exact ⟨_, rfl, ⟨rfl, .inl ⟨rfl, rfl⟩⟩, rfl, Fr.refl _ _⟩
  · have hH : Holds (Value.int .i64) w gb 0 ys.toArray := holds_of_blockI hgb (by simpa using r4)
    refine (Tryz.slices_Compact_int gb 0 cap ys w hH (Nat.le_trans r1 r2) r1).mono ?_
    rintro e w' ⟨rfl, q, rfl⟩
    have hcl : (Lib.compact ys).length ≤ ys.length := compact_length_le ys
    generalize hts : Lib.compact ys ++ List.replicate (ys.length - (Lib.compact ys).length) 0 = ts
    have hl : ts.length = ys.length := by rw [← hts]; simp; omega
    have ho := ownsRow_sortedI (n := q) (os := #[]) hl hbase hgb r1 r2 r3
    have hf := grownBy_sortedI (w := w) (g := gb) (n := q) (os := #[]) ts.toArray
    rw [grow_empty] at ho hf
    refine ⟨_, rfl, ?_, rfl, Fr.grown hf fun k hk => by cases hk; simp [Value.ownBlock]⟩
    rcases ho.2 with ⟨h0, _⟩ | ⟨g', cap', cur', hv, _, hg', s1, s2, s3, s4⟩
    · cases h0
    · cases hv
      refine ⟨by simp, .inr ⟨gb, cap, cur', rfl, Nat.zero_le _, hg', by omega, s2, s3, ?_⟩⟩
      have e1 : cur'.toList.take ((Lib.compact ys).length * 1) = (cur'.toList.take (ys.length * 1)).take (Lib.compact ys).length := by
        rw [List.take_take, Nat.mul_one, Nat.mul_one, Nat.min_eq_left hcl]
      rw [e1, s4, ← hts, List.map_append, List.take_left' (by simp)]

/-! ### plainly -/
theorem sortedU : ∀ {a b : List Int}, a.Pairwise (· ≤ ·) → b.Pairwise (· ≤ ·) → a.Perm b → a = b
  | [], b, _, _, h => by simpa using h.symm
  | x :: a, [], _, _, h => by simp at h
  | x :: a, y :: b, ha, hb, h => by
    have hx : x ∈ y :: b := h.subset (by simp)
    have hy : y ∈ x :: a := h.symm.subset (by simp)
    have e : x = y := by
      rcases List.mem_cons.1 hx with e | hx
      · exact e
      · rcases List.mem_cons.1 hy with e | hy
        · exact e.symm
        · have h1 := (List.pairwise_cons.1 ha).1 y hy
          have h2 := (List.pairwise_cons.1 hb).1 x hx
          omega
    subst e
    rw [sortedU (List.pairwise_cons.1 ha).2 (List.pairwise_cons.1 hb).2 (List.perm_cons x |>.1 h)]

theorem cptSorted {zs : List Int} (h : zs.Pairwise (· ≤ ·)) : ∀ m, m ≤ zs.length → (compactUpTo zs.toArray m).Pairwise (· < ·) ∧ ∀ x, x ∈ compactUpTo zs.toArray m ↔ x ∈ zs.take m := by
  intro m
  induction m with
  | zero => intro _; simp [compactUpTo]
  | succ m ih =>
    intro hm
    obtain ⟨h1, h2⟩ := ih (by omega)
    have hg : zs.toArray[m]! = zs[m] := by rw [getElem!_pos zs.toArray m (by simp; omega)]; simp
    have ht : zs.take (m + 1) = zs.take m ++ [zs[m]] := List.take_succ_eq_append_getElem (by omega)
    rw [compactUpTo_succ, hg, ht]
    cases hk : keeps zs.toArray m with
    | true =>
      simp only [if_true]
      refine ⟨List.pairwise_append.2 ⟨h1, by simp, fun x hx y hy => ?_⟩, fun x => by rw [List.mem_append, List.mem_append, h2 x]⟩
      simp only [List.mem_singleton] at hy
      subst hy
      have hx2 := (h2 x).1 hx
      obtain ⟨j, hj, rfl⟩ := List.getElem_of_mem hx2
      simp only [List.length_take] at hj
      have hm0 : 0 < m := by omega
      rw [List.getElem_take]
      have hl : zs[j] ≤ zs[m - 1] := by
        rcases Nat.lt_or_ge j (m - 1) with h3 | h3
        · exact List.pairwise_iff_getElem.1 h j (m - 1) (by omega) (by omega) h3
        · have : j = m - 1 := by omega
          subst this
          exact Int.le_refl _
      have hl2 : zs[m - 1] ≤ zs[m] := List.pairwise_iff_getElem.1 h (m - 1) m (by omega) (by omega) (by omega)
      have hne : zs[m] ≠ zs[m - 1] := by
        have hg1 : zs.toArray[m - 1]! = zs[m - 1] := by rw [getElem!_pos zs.toArray (m - 1) (by simp; omega)]; simp
        simp only [keeps, hg, hg1, decide_eq_true_eq] at hk
        rcases hk with hk | hk
        · omega
        · exact hk
      omega
    | false =>
      simp only [Bool.false_eq_true, if_false, List.append_nil]
      refine ⟨h1, fun x => ?_⟩
      rw [h2 x]
      have hm0 : 0 < m := by
        rcases Nat.eq_zero_or_pos m with h0 | h0
        · rw [h0] at hk; simp [keeps] at hk
        · exact h0
      have hg1 : zs.toArray[m - 1]! = zs[m - 1] := by rw [getElem!_pos zs.toArray (m - 1) (by simp; omega)]; simp
      simp only [keeps, hg, hg1, decide_eq_false_iff_not, not_or, Classical.not_not] at hk
      constructor
      · intro hx; exact List.mem_append_left _ hx
      · intro hx
        rcases List.mem_append.1 hx with hx | hx
        · exact hx
        · simp only [List.mem_singleton] at hx
          rw [hx, hk.2]
          refine List.mem_iff_getElem.2 ⟨m - 1, by simp; omega, by simp⟩

theorem sortZ_sorted (zs : List Int) : (sortZ zs).Pairwise (· ≤ ·) := by
  have := List.pairwise_mergeSort (le := fun (x y : Int) => decide (x ≤ y)) (fun a b c h1 h2 => by simp at *; omega) (fun a b => by simp; omega) zs
  exact this.imp fun h => by simpa using h
theorem cs_sorted (zs : List Int) : (Lib.compact (sortZ zs)).Pairwise (· < ·) := (cptSorted (sortZ_sorted zs) _ (Nat.le_refl _)).1
theorem cs_mem {zs : List Int} {x : Int} : x ∈ Lib.compact (sortZ zs) ↔ x ∈ zs := by
  rw [Lib.compact, (cptSorted (sortZ_sorted zs) _ (Nat.le_refl _)).2 x, List.take_length]
  exact (List.mergeSort_perm _ _).mem_iff
/-- Two strictly ascending lists of the same members are one. -/
theorem strictU {a b : List Int} (ha : a.Pairwise (· < ·)) (hb : b.Pairwise (· < ·)) (h : ∀ x, x ∈ a ↔ x ∈ b) : a = b :=
  sortedU (ha.imp fun h => by omega) (hb.imp fun h => by omega) ((List.perm_ext_iff_of_nodup (ha.imp fun h => by omega) (hb.imp fun h => by omega)).2 h)

theorem insI_mem {l : List Int} {x y : Int} : y ∈ insI l x ↔ y ∈ l ∨ y = x := by
  induction l with
  | nil => simp [insI]
  | cons a l ih =>
    unfold insI
    split
    · simp only [List.mem_cons]
      constructor
      · rintro (h | h | h) <;> simp [h]
      · rintro ((h | h) | h) <;> simp [h]
    · split
      · rename_i h1 h2
        subst h2
        simp only [List.mem_cons]
        constructor
        · rintro (h | h) <;> simp [h]
        · rintro ((h | h) | h) <;> simp [h]
      · simp only [List.mem_cons, ih]
        constructor
        · rintro (h | h | h) <;> simp [h]
        · rintro ((h | h) | h) <;> simp [h]
theorem insI_sorted {l : List Int} {x : Int} (h : l.Pairwise (· < ·)) : (insI l x).Pairwise (· < ·) := by
  induction l with
  | nil => simp [insI]
  | cons a l ih =>
    obtain ⟨h1, h2⟩ := List.pairwise_cons.1 h
    unfold insI
    split
    · rename_i hx
      exact List.pairwise_cons.2 ⟨fun y hy => by
        rcases List.mem_cons.1 hy with rfl | hy
        · exact hx
        · have := h1 y hy; omega, h⟩
    · split
      · exact h
      · rename_i hx1 hx2
        exact List.pairwise_cons.2 ⟨fun y hy => by
          rcases insI_mem.1 hy with hy | rfl
          · exact h1 y hy
          · omega, ih h2⟩
theorem insI_cs {l : List Int} {x : Int} (h : l.Pairwise (· < ·)) : Lib.compact (sortZ (l ++ [x])) = insI l x :=
  strictU (cs_sorted _) (insI_sorted h) fun y => by rw [cs_mem, insI_mem]; simp
theorem insI_last {l : List Int} {x : Int} (h : ∀ y, y ∈ l → y < x) : insI l x = l ++ [x] := by
  induction l with
  | nil => rfl
  | cons a l ih =>
    have := h a (by simp)
    unfold insI
    rw [if_neg (by omega), if_neg (by omega), ih fun y hy => h y (by simp [hy])]
    rfl

/-- insert. -/
theorem infoI8 : (Tryz.prog.info? 3).map (fun i => (i.zero, i.size, i.bytes)) = some (some (.int .i64 0), 1, 8) := by kernel_rfl

set_option maxRecDepth 100000 in
set_option maxHeartbeats 1000000 in
theorem insert_c (v sv : Value) (xs : List Int) (x : Int) (w : World) (h : w.ownsRow 0 3 1 v xs.length (intC xs)) (hx : SrcAt w sv 1 [.int .i64 x]) (hso : xs.Pairwise (· < ·)) (hlen : xs.length ≤ 1000000) :
    Calls Tryz.prog 149 #[v, sv] w fun e w' => ∃ v', e = .returned v' ∧ w'.ownsRow 0 3 1 v' (insI xs x).length (intC (insI xs x)) ∧ Fr v.ownBlock.toList w w' ∧ ∀ g, v'.ownBlock = some g → v.ownBlock = some g ∨ w.heap.size ≤ g := by
  have H := Lib.hid h; have HX := Lib.hid hx; clear h hx
  have HI := Lib.hid (insI_cs (x := x) hso)
  go_enter Tryz.func149, Tryz.ntmps149
  go_wp2_with (first | ((with_reducible refine wpList_of_wp (o := ⟨some 7, _, _, _, _, _⟩) rfl (fun K hK => ?_)); refine wp_append_src (.tmp 5) (.tmp 6) 23 3 (.int .i64 0) 1 8 rfl Tryz.underlying23 infoI8 rfl (by decide) v xs.length (intC xs) rfl H.out sv 1 [.int .i64 x] rfl HX.out rfl (by simp [Value.oneCell']) (by omega) (by omega) (fun ga cap2 w9 x1 x2 x3 => hK _ _ ?_); have X1 := Lib.hid x1; have X2 := Lib.hid x2; have X3 := Lib.hid x3; clear x1 x2 x3 hK K) | (go_at_call 171; refine (sort_row _ (xs ++ [x]) _ (by simpa using X1.out) (by simp; omega)).mono ?_; rintro e w2 ⟨rfl, y1, y2⟩; have Y1 := Lib.hid y1; have Y2 := Lib.hid y2; clear y1 y2) | (go_at_call 172; refine (compact_row _ (sortZ (xs ++ [x])) _ (by rw [sortZ_length]; simpa using Y1.out)).mono ?_; rintro e w3 ⟨v3, rfl, z1, z2, z3⟩; have Z1 := Lib.hid z1; have Z2 := Lib.hid z2; have Z3 := Lib.hid z3; clear z1 z2 z3))
  go_ret
  have hb : ∀ g, g ∈ (Value.slice ga (xs.length + 1) cap2).ownBlock.toList → g ∈ v.ownBlock.toList ∨ w.heap.size ≤ g := fun g hg => by
    simp only [Option.mem_toList] at hg ⊢
    rcases X3.out with h | h
    · exact .inl (by rw [← h]; exact hg)
    · rw [h] at hg; cases hg; exact .inr (Nat.le_refl _)
  refine ⟨v3, rfl, by rw [← HI.out]; exact Z1.out, (X2.out.step Y2.out hb).step Z3.out hb, fun g hg => ?_⟩
  rw [Z2.out] at hg
  have := hb g (by simpa using hg)
  simpa using this

end Go.Proofs.YtahfpadaoobkfaaGreatDoor

/-
  statute: rules, Applies.
-/
namespace Go.Proofs.YtahfpadaoobkfaaGreatDoor
open Go.RowKit Go.Lib

set_option maxRecDepth 100000 in
set_option maxHeartbeats 1000000 in
theorem rules1_c (r : Rp) (Bi Bq : Nat) (i : Int) (q : Qn) (w : World) (hi : w.heap[Bi]? = some (.cells #[.int .i64 i] 3 (0, 0))) (hq : w.heap[Bq]? = some (.cells #[.int .i64 q.thing, .int .i64 q.says, .int .i64 q.at_, .int .i64 q.known] 142 (0, 0))) :
    Calls Tryz.prog 173 #[rpV r, .pointer (some ⟨Bi, 0, none⟩), .pointer (some ⟨Bq, 0, none⟩)] w fun e w' => e = .returned (.bool (repB i q r)) ∧ Fr [] w w' := by
  obtain ⟨cl, pub, frm⟩ := r
  obtain ⟨th, sa, at_, kn⟩ := q
  simp only at hq
  unfold rpV repB
  simp only
  have k1 := heap_alloc_old (.cells #[.int .i64 cl, .int .i64 pub, .int .i64 frm] 108) hi
  have k2 := heap_alloc_old (.cells #[.int .i64 cl, .int .i64 pub, .int .i64 frm] 108) hq
  have c0 : (w.alloc (.cells #[.int .i64 cl, .int .i64 pub, .int .i64 frm] 108)).cell? ⟨Bi, 0, none⟩ = some (.int .i64 i) := cell_of_blk k1 0
  have c2 : (w.alloc (.cells #[.int .i64 cl, .int .i64 pub, .int .i64 frm] 108)).cell? ⟨Bq, 2, none⟩ = some (.int .i64 at_) := cell_of_blk k2 2
  have c3 : (w.alloc (.cells #[.int .i64 cl, .int .i64 pub, .int .i64 frm] 108)).cell? ⟨Bq, 3, none⟩ = some (.int .i64 kn) := cell_of_blk k2 3
  clear k1 k2 hi hq
  by_cases h1 : cl = i
  · subst h1
    by_cases h2 : pub ≤ kn
    · go_enter Tryz.func173, Tryz.ntmps173
      go_wp2_with fail
      go_ret
      exact ⟨by simp [h2], Fr.alloc _ _ _⟩
    · go_enter Tryz.func173, Tryz.ntmps173
      go_wp2_with fail
      go_ret
      exact ⟨by have : ¬ pub ≤ kn := by omega
                simp [this], Fr.alloc _ _ _⟩
  · go_enter Tryz.func173, Tryz.ntmps173
    go_wp2_with fail
    go_ret
    exact ⟨by simp [h1], Fr.alloc _ _ _⟩

set_option maxRecDepth 100000 in
theorem cfRp_rules (vr : Value) (Bi Bq : Nat) (i : Int) (q : Qn) (l : List Rp) (w : World) (h : Sl w vr l.length (l.flatMap rpC)) (hi : w.heap[Bi]? = some (.cells #[.int .i64 i] 3 (0, 0))) (hq : w.heap[Bq]? = some (.cells #[.int .i64 q.thing, .int .i64 q.says, .int .i64 q.at_, .int .i64 q.known] 142 (0, 0))) :
    Calls Tryz.prog 117 #[vr, .func (.func 173) #[] #[.pointer (some ⟨Bi, 0, none⟩), .pointer (some ⟨Bq, 0, none⟩)]] w fun e w' => e = .returned (.bool (l.any (repB i q))) ∧ Fr [] w w' := by
  obtain ⟨va, vcap, rfl⟩ := h.val
  refine (cfRp_c 173 #[.pointer (some ⟨Bi, 0, none⟩), .pointer (some ⟨Bq, 0, none⟩)] (fun _ _ => rfl) va vcap l (fun k => repB i q (l.getD k default)) (fun _ W => Fr [] w W) w (fun k W hJ => h.same hJ) ?_ (Fr.refl _ _)).mono ?_
  · intro k W hk _ hJ
    refine (rules1_c (l.getD k default) Bi Bq i q W (hJ.keep hi (by simp)) (hJ.keep hq (by simp))).mono ?_
    rintro e w' ⟨rfl, f⟩
    exact ⟨rfl, hJ.trans f⟩
  · rintro e w' ⟨rfl, k, hJ⟩
    exact ⟨by rw [anyN_list l (repB i q) default], hJ⟩

theorem alloc3' (w : World) (x y z : Obj) : (((w.alloc x).alloc y).alloc z).heap[w.heap.size]? = some x ∧ (((w.alloc x).alloc y).alloc z).heap[w.heap.size + 1]? = some y ∧ (((w.alloc x).alloc y).alloc z).heap[w.heap.size + 1 + 1]? = some z := by
  have h : ((w.alloc x).alloc y).heap.size = w.heap.size + 1 + 1 := by simp
  exact ⟨heap_alloc_old _ (alloc2' w x y).1, heap_alloc_old _ (alloc2' w x y).2, h ▸ heap_alloc_new ((w.alloc x).alloc y) z⟩

set_option maxRecDepth 100000 in
set_option maxHeartbeats 4000000 in
theorem rules_c (vc vr vf : Value) (ys : List ClV) (c : Rb) (i : Nat) (q : Qn) (w : World) (h : RbAt w vc vr vf ys c) (hi : i < ys.length) (hv : clB (ys[i].x) = true) :
    Calls Tryz.prog 150 #[rbV vc vr vf, .int .i64 i, qnV q] w fun e w' => e = .returned (.bool (rulesB c q i)) ∧ Fr [] w w' := by
  have hl := h.cls.sl.len
  obtain ⟨ac, pc, rfl⟩ := h.cls.sl.val
  obtain ⟨ar, pr, rfl⟩ := h.rps.val
  have A3 := alloc3' w (.cells #[.slice ac ys.length pc, .slice ar c.rps.length pr, vf] 36) (.cells #[.int .i64 i] 3) (.cells #[.int .i64 q.thing, .int .i64 q.says, .int .i64 q.at_, .int .i64 q.known] 142)
  have F3 : Fr [] w (((w.alloc (.cells #[.slice ac ys.length pc, .slice ar c.rps.length pr, vf] 36)).alloc (.cells #[.int .i64 i] 3)).alloc (.cells #[.int .i64 q.thing, .int .i64 q.says, .int .i64 q.at_, .int .i64 q.known] 142)) := ((Fr.alloc _ _ _).trans (Fr.alloc _ _ _)).trans (Fr.alloc _ _ _)
  have h := h.same F3
  obtain ⟨b, off, hac, hc⟩ := h.cls.sl.at_ (by omega)
  subst hac
  have e1 : c.cls.getD i default = ys[i].x := by rw [h.eq]; simp [hi]
  have er : rulesB c q i = (decide ((ys[i].x).pub ≤ q.known) && hasB (ys[i].x).f (ys[i].x).t q.at_ && !c.rps.any (repB i q)) := by rw [rulesB, e1]
  rw [er]
  have d0 := hc (i * 6 + 0) _ ((flat_get (enc := clC) (k := 6) (fun _ => rfl) ys i hi 0 (by omega)).trans rfl)
  have d1 := hc (i * 6 + 1) _ ((flat_get (enc := clC) (k := 6) (fun _ => rfl) ys i hi 1 (by omega)).trans rfl)
  have d2 := hc (i * 6 + 2) _ ((flat_get (enc := clC) (k := 6) (fun _ => rfl) ys i hi 2 (by omega)).trans rfl)
  have d3 := hc (i * 6 + 3) _ ((flat_get (enc := clC) (k := 6) (fun _ => rfl) ys i hi 3 (by omega)).trans rfl)
  have d4 := hc (i * 6 + 4) _ ((flat_get (enc := clC) (k := 6) (fun _ => rfl) ys i hi 4 (by omega)).trans rfl)
  have d5 := hc (i * 6 + 5) _ ((flat_get (enc := clC) (k := 6) (fun _ => rfl) ys i hi 5 (by omega)).trans rfl)
  simp only [Nat.add_zero, ← Nat.add_assoc] at d0 d1 d2 d3 d4 d5
  clear hc e1 er
  obtain ⟨an, pn, hvn⟩ := (h.cls.needs ys[i] (List.getElem_mem hi)).val
  obtain ⟨ab, pb, hvb⟩ := (h.cls.bars ys[i] (List.getElem_mem hi)).val
  generalize ys[i] = y at *
  obtain ⟨⟨pub, f, t, needs, bars, gives⟩, vn, vb⟩ := y
  simp only at d0 d1 d2 d3 d4 d5 hv hvn hvb ⊢
  subst hvn hvb
  have Hq : Hid (∀ W : World, W.heap[w.heap.size + 1]? = some (.cells #[.int .i64 i] 3 (0, 0)) → W.heap[w.heap.size + 1 + 1]? = some (.cells #[.int .i64 q.thing, .int .i64 q.says, .int .i64 q.at_, .int .i64 q.known] 142 (0, 0)) → Fr [] (((w.alloc (.cells #[.slice (some ⟨b, off, none⟩) ys.length pc, .slice ar c.rps.length pr, vf] 36)).alloc (.cells #[.int .i64 i] 3)).alloc (.cells #[.int .i64 q.thing, .int .i64 q.says, .int .i64 q.at_, .int .i64 q.known] 142)) W → Calls Tryz.prog 117 #[.slice ar c.rps.length pr, .func (.func 173) #[] #[.pointer (some ⟨w.heap.size + 1, 0, none⟩), .pointer (some ⟨w.heap.size + 1 + 1, 0, none⟩)]] W fun e w' => e = .returned (.bool (c.rps.any (repB i q))) ∧ Fr [] W w') := Lib.hid fun W h1 h2 hf => cfRp_rules _ _ _ i q _ W (h.rps.same hf) h1 h2
  generalize c.rps.any (repB i q) = rp at *
  obtain ⟨th, sa, at_, kn⟩ := q
  simp only [clB, spellB, secB, Bool.and_eq_true, isInB_iff] at hv
  have B1 : Hid (-9223372036854775807 ≤ t ∧ t ≤ 9223372036854775807) := Lib.hid ⟨by omega, by omega⟩
  clear hv h
  unfold rbV qnV
  simp only at A3 F3 d0 d1 d2 d3 d4 d5 Hq ⊢
  generalize c.rps.length = nr at *
  have HA := Lib.hid A3; have HF := Lib.hid F3; clear A3 F3
  by_cases h1 : pub ≤ kn
  · go_enter Tryz.func150, Tryz.ntmps150
    go_wp2_with fail
    refine (has_c f t at_ _ B1.out).mono ?_
    rintro e w1 ⟨rfl, f1⟩
    have F1 := Lib.hid ((Fr.alloc [] _ _).trans f1)
    have K0 := F1.out.keep HA.out.1 (by simp)
    have K1 := Lib.hid (F1.out.keep HA.out.2.1 (by simp))
    have K2 := Lib.hid (F1.out.keep HA.out.2.2 (by simp))
    have g1 : w1.cell? ⟨w.heap.size, 1, none⟩ = some (.slice ar nr pr) := cell_of_blk K0 1
    clear K0 f1
    cases h2 : hasB f t at_
    · go_wp2_with fail
      go_ret
      exact ⟨by simp [h2], HF.out.trans F1.out⟩
    · go_wp2_with fail
      refine (Hq.out w1 K1.out K2.out F1.out).mono ?_
      rintro e w2 ⟨rfl, f2⟩
      have F2 := Lib.hid (F1.out.trans f2); clear f2
      go_wp2_with fail
      go_ret
      exact ⟨by simp [h1, h2], HF.out.trans F2.out⟩
  · go_enter Tryz.func150, Tryz.ntmps150
    go_wp2_with fail
    go_ret
    exact ⟨by have : ¬ pub ≤ kn := by omega
              simp [this], HF.out.trans (Fr.alloc _ _ _)⟩

/-- The state of the loops of Applies. -/
structure PickAt (w : World) (p : Nat → Bool) (k : Nat) (v : Value) (wr : World) : Prop where
  fr : Fr [] w wr
  row : wr.ownsRow 0 3 1 v (pickN p k).length (intC (pickN p k))
  new : ∀ g, v.ownBlock = some g → w.heap.size ≤ g
theorem pickN_pos {p : Nat → Bool} {k : Nat} (h : p k = true) : pickN p (k + 1) = pickN p k ++ [(k : Int)] := by simp [pickN, List.range_succ, List.filter_append, h]
theorem pickN_neg {p : Nat → Bool} {k : Nat} (h : p k = false) : pickN p (k + 1) = pickN p k := by simp [pickN, List.range_succ, List.filter_append, h]
theorem pickN_lt {p : Nat → Bool} {k : Nat} {x : Int} (h : x ∈ pickN p k) : 0 ≤ x ∧ x < k := by
  obtain ⟨i, h1, _, rfl⟩ := pickN_mem.1 h; omega
theorem pickN_sorted (p : Nat → Bool) (k : Nat) : (pickN p k).Pairwise (· < ·) := by
  unfold pickN
  rw [List.pairwise_map]
  exact ((List.pairwise_lt_range (n := k)).filter p).imp fun h => by omega
theorem pickN_len (p : Nat → Bool) (k : Nat) : (pickN p k).length ≤ k := by
  have := List.length_filter_le p (List.range k)
  simpa [pickN] using this
theorem PickAt.start (w : World) (p : Nat → Bool) : PickAt w p 0 (.slice none 0 0) w := ⟨Fr.refl _ _, ⟨by simp [pickN], .inl ⟨rfl, by simp [pickN]⟩⟩, fun g hg => by cases hg⟩
theorem PickAt.older {w0 w wr : World} {p : Nat → Bool} {k : Nat} {v : Value} (h : PickAt w p k v wr) (hf : Fr [] w0 w) : PickAt w0 p k v wr := ⟨hf.trans h.fr, h.row, fun g hg => Nat.le_trans hf.size (h.new g hg)⟩
theorem PickAt.same {w wr w2 : World} {p : Nat → Bool} {k : Nat} {v : Value} (h : PickAt w p k v wr) (hf : Fr [] wr w2) : PickAt w p k v w2 := ⟨h.fr.trans hf, ownsRow_keep h.row (fun g hg => hf.block g (ownsRow_lt h.row hg) (by simp)), h.new⟩
theorem PickAt.skip {w wr : World} {p : Nat → Bool} {k : Nat} {v : Value} (h : PickAt w p k v wr) (hp : p k = false) : PickAt w p (k + 1) v wr := ⟨h.fr, by rw [pickN_neg hp]; exact h.row, h.new⟩

theorem PickAt.insert {w wr : World} {p : Nat → Bool} {k : Nat} {v sv : Value} (h : PickAt w p k v wr) (hp : p k = true) (hk : k ≤ 1000000) (hs : SrcAt wr sv 1 [.int .i64 k]) :
    Calls Tryz.prog 149 #[v, sv] wr fun e w' => ∃ v', e = .returned v' ∧ PickAt w p (k + 1) v' w' ∧ Fr v.ownBlock.toList wr w' := by
  have hl := pickN_len p k
  refine (insert_c v sv (pickN p k) k wr h.row hs (pickN_sorted p k) (by omega)).mono ?_
  rintro e w' ⟨v', rfl, h1, h2, h3⟩
  rw [insI_last fun y hy => (pickN_lt hy).2, ← pickN_pos hp] at h1
  refine ⟨v', rfl, ⟨h.fr.step h2 (fun i hi => .inr (h.new i (by simpa using hi))), h1, fun g hg => ?_⟩, h2⟩
  rcases h3 g hg with h4 | h4
  · exact h.new g h4
  · exact Nat.le_trans h.fr.size h4

theorem srcAt_one (w : World) (x : Value) (e : TypeId) : SrcAt (w.alloc (.cells #[x] e)) (.slice (some ⟨w.heap.size, 0, none⟩) 1 1) 1 [x] :=
  ⟨.inr ⟨_, _, rfl, World.news_of_block (heap_alloc_new w (.cells #[x] e))⟩⟩

end Go.Proofs.YtahfpadaoobkfaaGreatDoor
