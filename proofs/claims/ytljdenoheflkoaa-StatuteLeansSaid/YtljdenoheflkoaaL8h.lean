/-
  dialtoneref08: BentProof.
-/
import Derived.Test.YtljdenoheflkoaaL8g
namespace Go.Proofs.Ytljdenoheflkoaa
open Go.RowKit Go.Lib

/-- What BentProof returns: some findings. -/
def BentP (w : World) (n : Nat) (e : Ending) (w' : World) : Prop := Fr [] w w' ∧ ∃ v' l', e = .returned v' ∧ FdAt w' v' l' ∧ l'.length ≤ n + 1

theorem bentP_row {w W : World} {n : Nat} {v : Value} {l' : List Fd} (hF : Fr [] w W) (hr : FdRow W v l') (hl : l'.length ≤ n + 1) : BentP w n (.returned v) W := ⟨hF, v, l', rfl, fdAt_of_row hr, hl⟩
theorem fdRow_set' {w : World} {g cap n : Nat} {l : List Fd} (h : FdRow w (.slice (some ⟨g, 0, none⟩) n cap) l) (hn : n = l.length) (k j : Nat) (x : Fd) (u : Value) (hk : k < l.length) (hj : j < 4) (hx : (fdC l[k]).set j u = fdC x) : FdRow (w.setCell ⟨g, k * 4 + j, none⟩ u) (.slice (some ⟨g, 0, none⟩) n cap) (l.set k x) := by
  subst hn
  exact fdRow_set h k j x u hk hj hx
theorem fdRow_put {w : World} {g cap : Nat} {l : List Fd} (h : FdRow w (.slice (some ⟨g, 0, none⟩) l.length cap) l) (k : Nat) (x : Fd) (hk : k < l.length) :
    FdRow ((((w.setCell ⟨g, k * 4, none⟩ (.int .i64 x.says)).setCell ⟨g, k * 4 + 1, none⟩ (.bool x.holds)).setCell ⟨g, k * 4 + 2, none⟩ (.int .i64 x.fact)).setCell ⟨g, k * 4 + 3, none⟩ (.int .i64 x.cl)) (.slice (some ⟨g, 0, none⟩) l.length cap) (l.set k x) := by
  have h0 := fdRow_set' h rfl k 0 ⟨x.says, l[k].holds, l[k].fact, l[k].cl⟩ (.int .i64 x.says) hk (by omega) rfl
  have h1 := fdRow_set' h0 (by simp) k 1 ⟨x.says, x.holds, l[k].fact, l[k].cl⟩ (.bool x.holds) (by simpa using hk) (by omega) (by rw [List.getElem_set_self]; rfl)
  have h2 := fdRow_set' h1 (by simp) k 2 ⟨x.says, x.holds, x.fact, l[k].cl⟩ (.int .i64 x.fact) (by simpa using hk) (by omega) (by rw [List.getElem_set_self]; rfl)
  have h3 := fdRow_set' h2 (by simp) k 3 x (.int .i64 x.cl) (by simpa using hk) (by omega) (by rw [List.getElem_set_self]; rfl)
  simp only [List.set_set, Nat.add_zero] at h3
  exact h3

set_option maxRecDepth 1000000 in
set_option maxHeartbeats 1000000 in
theorem bent_c (v : Value) (l : List Fd) (how n at_ : Int) (w : World) (h : SrcAt w v l.length (l.flatMap fdC)) (hl : l.length ≤ 1000) (i1 : I64 how) (i3 : I64 at_) :
    Calls Try.prog 14 #[v, .int .i64 how, .int .i64 n, .int .i64 at_] w (BentP w l.length) := by
  have HS := Lib.hid h
  have HO := Lib.hid (fdC_one l)
  have HL := Lib.hid (fdC_len l)
  have CH := Lib.hid fun W => pick8_c how 6 W i1 (by omega) (by omega)
  have bh := pickI_bound how 6 (by omega)
  generalize pickI how 6 = hw at *
  clear h
  have RE := Lib.hid (row_empty w 63 4)
  have FA := Lib.hid (Fr.alloc [] w (.cells #[] 63))
  by_cases h0 : l.length = 0
  · have HZ := Lib.hid h0
    have hz : ((l.length : Int) == 0) = true := by simp [h0]
    clear h0
    go_enter Try.func14, Try.ntmps14
    go_wp2_with (first | ((with_reducible refine wpList_of_wp (o := ⟨some 13, _, _, _, _, _⟩) rfl (fun K hK => ?_)); go_must (refine wp_append_src (.tmp 11) (.tmp 12) 28 63 _ 4 32 rfl Try.underlying28 infoFd rfl (by decide) (.slice (some ⟨w.heap.size, 0, none⟩) 0 0) 0 [] rfl RE.out _ l.length _ rfl (HS.out.same FA.out) HL.out HO.out (by omega) (by omega) ?_; intro ga cap1 W1 r1 f1 b1; simp only [Nat.zero_add, List.nil_append] at r1 ⊢; have R1 := Lib.hid r1; have F1 : Hid (Fr [] w W1) := Lib.hid (FA.out.step f1 (fun i hi => .inr (by simp [Value.ownBlock] at hi; omega))); have B1 : Hid (∀ g, (Value.slice ga l.length cap1).ownBlock = some g → w.heap.size ≤ g) := Lib.hid (fun g hg => by simp only [Nat.zero_add] at b1; rcases b1 with b1 | b1 <;> (rw [b1] at hg; simp [Value.ownBlock] at hg; omega)); refine hK _ _ ?_; clear hK r1 f1 b1)) | ((with_reducible refine wpList_of_wp (o := ⟨some 21, _, _, _, _, _⟩) rfl (fun K hK => ?_)); go_must (refine wp_append_src (.tmp 17) (.tmp 20) 28 63 _ 4 32 rfl Try.underlying28 infoFd rfl (by decide) (.slice ga l.length cap1) l.length _ rfl (row_fr R1.out (Fr.alloc [] _ _) (by simp)) (.slice (some ⟨W1.heap.size, 0, none⟩) 1 1) 1 _ rfl (srcAt_new W1 #[.int .i64 n, .bool false, .int .i64 (-1), .int .i64 (-1)] 63) rfl (by simp [Value.oneCell']) (by omega) (by omega) ?_; intro gb cap2 W2 r2 f2 b2; have R2 := Lib.hid r2; have F2 : Hid (Fr [] w W2) := Lib.hid ((F1.out.trans (Fr.alloc _ _ _)).step f2 (fun i hi => .inr (B1.out i (by simpa using hi)))); refine hK _ _ ?_; clear hK r2 f2 b2)))
    go_ret
    refine ⟨F2.out, _, l ++ [⟨n, false, -1, -1⟩], rfl, fdAt_of_row ?_, by simp⟩
    have := R2.out
    simpa [FdRow, fdC] using this
  · have hz : ((l.length : Int) == 0) = false := beq_eq_false_iff_ne.2 (by omega)
    have CA := Lib.hid fun W => pick8_c at_ l.length W i3 (by omega) (by omega)
    have ba := pickI_bound at_ l.length (by omega)
    generalize pickI at_ l.length = kk at *
    obtain ⟨k, rfl⟩ := Int.eq_ofNat_of_zero_le ba.1
    have hk : k < l.length := by omega
    go_enter Try.func14, Try.ntmps14
    go_wp2_with (first | ((with_reducible refine wpList_of_wp (o := ⟨some 13, _, _, _, _, _⟩) rfl (fun K hK => ?_)); go_must (refine wp_append_src (.tmp 11) (.tmp 12) 28 63 _ 4 32 rfl Try.underlying28 infoFd rfl (by decide) (.slice (some ⟨w.heap.size, 0, none⟩) 0 0) 0 [] rfl RE.out _ l.length _ rfl (HS.out.same FA.out) HL.out HO.out (by omega) (by omega) ?_; intro ga cap1 W1 r1 f1 b1; simp only [Nat.zero_add, List.nil_append] at r1 ⊢; have R1 := Lib.hid r1; have F1 : Hid (Fr [] w W1) := Lib.hid (FA.out.step f1 (fun i hi => .inr (by simp [Value.ownBlock] at hi; omega))); have B1 : Hid (∀ g, (Value.slice ga l.length cap1).ownBlock = some g → w.heap.size ≤ g) := Lib.hid (fun g hg => by simp only [Nat.zero_add] at b1; rcases b1 with b1 | b1 <;> (rw [b1] at hg; simp [Value.ownBlock] at hg; omega)); refine hK _ _ ?_; clear hK r1 f1 b1)))
    refine (CA.out _).mono ?_
    rintro e w1 ⟨rfl, rfl⟩
    obtain ⟨g, cap, hv, _⟩ := R1.out.form (by omega)
    cases hv
    go_wp2_with fail
    refine (CH.out _).mono ?_
    rintro e w1 ⟨rfl, rfl⟩
    obtain ⟨c0, c1, c2, c3⟩ := fdRow_cells R1.out k hk
    have fz := fun j => fdRow_free R1.out (k * 4 + j)
    have z0 : W1.frozen? ⟨g, k * 4, none⟩ = false := fz 0
    have z1 := fz 1; have z2 := fz 2; have z3 := fz 3
    have hg := B1.out g rfl
    clear fz hz CA CH ba i1 i3 FA RE HS h0
    have hcase : hw = 0 ∨ hw = 1 ∨ hw = 2 ∨ hw = 3 ∨ hw = 4 ∨ hw = 5 := by omega
    clear bh
    rcases hcase with rfl | rfl | rfl | rfl | rfl | rfl
    · go_wp2_with fail
      go_ret
      have hr := fdRow_set' R1.out rfl k 0 ⟨n, l[k].holds, l[k].fact, l[k].cl⟩ (.int .i64 n) hk (by omega) rfl
      exact bentP_row (F1.out.step (Fr.setCell (fp := [g]) _ _ (by simp)) (fun i hi => by simp at hi; exact .inr (by omega))) hr (by simp)
    · go_wp2_with fail
      go_ret
      have hr := fdRow_set' R1.out rfl k 1 ⟨l[k].says, !l[k].holds, l[k].fact, l[k].cl⟩ (.bool (!l[k].holds)) hk (by omega) rfl
      exact bentP_row (F1.out.step (Fr.setCell (fp := [g]) _ _ (by simp)) (fun i hi => by simp at hi; exact .inr (by omega))) hr (by simp)
    · go_wp2_with fail
      go_ret
      have hr := fdRow_set' R1.out rfl k 2 ⟨l[k].says, l[k].holds, n, l[k].cl⟩ (.int .i64 n) hk (by omega) rfl
      exact bentP_row (F1.out.step (Fr.setCell (fp := [g]) _ _ (by simp)) (fun i hi => by simp at hi; exact .inr (by omega))) hr (by simp)
    · go_wp2_with fail
      go_ret
      have hr := fdRow_set' R1.out rfl k 3 ⟨l[k].says, l[k].holds, l[k].fact, n⟩ (.int .i64 n) hk (by omega) rfl
      exact bentP_row (F1.out.step (Fr.setCell (fp := [g]) _ _ (by simp)) (fun i hi => by simp at hi; exact .inr (by omega))) hr (by simp)
    · obtain ⟨cur, hgb, hlc, hcm, hcs, hct⟩ : ∃ cur, W1.heap[g]? = some (.cells cur 63 (0, 0)) ∧ l.length ≤ cap1 ∧ cap1 ≤ 9223372036854775807 ∧ cur.size = cap1 * 4 ∧ cur.toList.take (l.length * 4) = l.flatMap fdC := by
        rcases R1.out.2 with ⟨h0, _⟩ | ⟨g', cap', cur, hv, _, hg', r1, r2, r3, r4⟩
        · cases h0
        · cases hv; exact ⟨cur, hg', r1, r2, r3, r4⟩
      have hkc : k ≤ cap1 := by omega
      have hk1 : k + 1 ≤ l.length := hk
      have hki : (0 : Int) ≤ (k : Int) + 1 := by omega
      have hki2 : (k : Int) + 1 ≤ (l.length : Int) := by omega
      obtain ⟨off, hif, hoff⟩ : ∃ off, (if cap1 = k + 1 then (some ⟨g, 0, none⟩ : Option Addr) else some ⟨g, (k + 1) * 4, none⟩) = some ⟨g, off, none⟩ ∧ (off = (k + 1) * 4 ∨ l.length - (k + 1) = 0) := by
        split
        · exact ⟨0, rfl, .inr (by omega)⟩
        · exact ⟨_, rfl, .inl rfl⟩
      have HT := Lib.hid (srcAt_part R1.out (k + 1) (l.length - (k + 1)) (cap1 - (k + 1)) off (by omega) hoff)
      rw [fd_tail] at HT
      have HGB := Lib.hid hgb; have HCS := Lib.hid hcs; have HCT := Lib.hid hct
      have HE := Lib.hid (erase_flat l k hk)
      have HEL : Hid ((l.eraseIdx k).length = k + (l.length - (k + 1))) := Lib.hid (by rw [List.length_eraseIdx, if_pos hk]; omega)
      clear hoff hgb hcs hct c0 c1 c2 c3 z0 z1 z2 z3
      go_wp2_with fail
      have hw1 : IntKind.i64.wrap (↑k + 1) = ↑k + 1 := IntWalk.i64_in _ (by omega)
      have hw2 : ((k : Int) + 1).toNat = k + 1 := by omega
      refine reg_mix (fun _ => True) [0, 1, 2, 3, 4, 5, 6, 7, 8, 9] (by kernel_rfl) (by kernel_rfl) (by kernel_rfl) rfl trivial ?_
      iterate 8 (refine mix_take1 (v := ?_) rfl rfl rfl rfl (fun w _ => ?_) ?_; rotate_left; (focus (go_simp; rfl)); simp only [List.setIfInBounds_toArray, List.set_cons_succ, List.set_cons_zero])
      clear hw1 hw2 hif hki hki2
      have FD : Fr [] w W1.drew := F1.out.trans (Fr.drew _ _)
      have hT : cur.toList.take (k * 4) = (l.take k).flatMap fdC := by rw [flat_take, ← HCT.out, List.take_take, Nat.min_eq_left (by omega)]
      by_cases hlast : k + 1 = l.length
      · have hm0 : l.length - (k + 1) = 0 := by omega
        refine mix_do (o := ⟨some 81, _, _, _, _, _⟩) rfl rfl rfl (fun K hK => ?_)
        refine wp_append_room (.tmp 76) (.tmp 80) 28 63 _ 4 32 rfl Try.underlying28 infoFd g k k cur rfl HGB.out ⟨g, off, none⟩ (l.length - (k + 1)) (cap1 - (k + 1)) [] rfl (by simp) (by simp [hm0]) (by simp) (by omega) (by simp only [List.length_nil, HCS.out]; omega) ?_
        intro ds hds htk
        refine hK _ _ trivial ?_
        clear hK K
        try simp only [Act.put, List.setIfInBounds_toArray, List.set_cons_succ, List.set_cons_zero]
        refine mix_take1 (v := ?_) rfl rfl rfl rfl (fun w _ => ?_) ?_
        rotate_left
        (focus (go_simp; rfl))
        simp only [List.setIfInBounds_toArray, List.set_cons_succ, List.set_cons_zero]
        refine mix_end ?_
        go_wp2_with fail
        go_ret
        have hb : (W1.drew.setRow g ds).heap[g]? = some (.cells ds 63 (0, 0)) := setRow_heap _ _ _ _ _ _ HGB.out
        have htl : (l.take k).flatMap fdC = ds.toList.take (k * 4) := by
          rw [hm0, Nat.add_zero, List.append_nil] at htk
          rw [htk, hT]
        have hlk : (l.take k).length = k := by simp; omega
        refine ⟨FD.step (Fr.setRow (fp := [g]) _ _ (by simp)) (fun i hi => by simp at hi; exact .inr (by omega)), _, l.take k, rfl, ⟨?_, ?_⟩, by simp; omega⟩
        · rw [hlk, htl]
          refine ⟨_, k, by simp [hm0], Nat.le_refl _, by omega, fun _ => ⟨g, 0, rfl, fun j u hu => ?_⟩⟩
          rw [Nat.zero_add]
          have hj : j < k * 4 := by have := (List.getElem?_eq_some_iff.1 hu).1; simp at this; omega
          rw [List.getElem?_take_of_lt hj, Array.getElem?_toList] at hu
          exact (cell_of_blk hb j).trans hu
        · rw [hlk, htl]
          refine ⟨.inr ⟨⟨g, 0, none⟩, k, by simp [hm0], fun j u hu => ?_⟩⟩
          rw [addr_add, Nat.zero_add]
          have hj : j < k * 4 := by have := (List.getElem?_eq_some_iff.1 hu).1; simp at this; omega
          rw [List.getElem?_take_of_lt hj, Array.getElem?_toList] at hu
          exact (cell_of_blk hb j).trans hu
      · refine mix_do (o := ⟨some 81, _, _, _, _, _⟩) rfl rfl rfl (fun K hK => ?_)
        have hsr := (HT.out.same (Fr.drew [] W1)).form
        rcases hsr with ⟨hsr, _⟩ | ⟨ad, c9, hsr, hcell⟩
        · cases hsr
        cases hsr
        refine wp_append_grows (.tmp 76) (.tmp 80) 28 63 _ 4 32 rfl Try.underlying28 infoFd rfl (by decide) ⟨g, 0, none⟩ k k ((l.take k).flatMap fdC) rfl (by rw [fdC_len]; simp; omega) (fun j u hu => by
            rw [addr_add, Nat.zero_add, ← hT] at *
            have hj : j < k * 4 := by have := (List.getElem?_eq_some_iff.1 hu).1; simp at this; omega
            rw [List.getElem?_take_of_lt hj, Array.getElem?_toList] at hu
            exact (cell_of_blk (w := W1.drew) HGB.out j).trans hu) ⟨g, off, none⟩ (l.length - (k + 1)) (cap1 - (k + 1)) _ rfl (by rw [fdC_len]; simp) hcell (by omega) (by omega) (by omega) ?_
        intro v' W2 r2 f2
        refine hK _ _ trivial ?_
        clear hK K
        try simp only [Act.put, List.setIfInBounds_toArray, List.set_cons_succ, List.set_cons_zero]
        refine mix_take1 (v := ?_) rfl rfl rfl rfl (fun w _ => ?_) ?_
        rotate_left
        (focus (go_simp; rfl))
        simp only [List.setIfInBounds_toArray, List.set_cons_succ, List.set_cons_zero]
        refine mix_end ?_
        go_wp2_with fail
        go_ret
        refine bentP_row (FD.trans f2) (l' := l.eraseIdx k) ?_ (by rw [HEL.out]; omega)
        unfold FdRow
        rw [HEL.out, HE.out]
        exact row_base r2
    · go_wp2_with fail
      go_ret
      have hr := fdRow_put R1.out k ⟨l[k].says, true, -1, n⟩ hk
      exact bentP_row (F1.out.step ((((Fr.setCell (fp := [g]) _ _ (by simp)).trans (Fr.setCell (fp := [g]) _ _ (by simp))).trans (Fr.setCell (fp := [g]) _ _ (by simp))).trans (Fr.setCell (fp := [g]) _ _ (by simp))) (fun i hi => by simp at hi; exact .inr (by omega))) hr (by simp)

end Go.Proofs.Ytljdenoheflkoaa
