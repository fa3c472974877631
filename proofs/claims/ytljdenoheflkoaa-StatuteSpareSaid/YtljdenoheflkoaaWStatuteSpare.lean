/-
  The walk of StatuteSpare.
-/
import Derived.Test.YtljdenoheflkoaaL8f
namespace Go.Proofs.Ytljdenoheflkoaa
open Go.RowKit Go.Lib

set_option maxRecDepth 1000000 in
set_option maxHeartbeats 1000000 in
theorem spare_c (v1 v2 v3 : Value) (n1 n2 n3 : Nat) (is1 is2 is3 : List Int) (qa qb qc qd : Int) (w : World) (h1 : NumAt w v1 n1 6 is1) (h2 : NumAt w v2 n2 3 is2) (h3 : NumAt w v3 n3 6 is3) (ha : I64 qa) (hb : I64 qb) (hc : I64 qc) (hd : I64 qd) :
    Calls Try.prog 6 #[.agg #[v1, v2, v3], .agg #[.int .i64 qa, .int .i64 qb, .int .i64 qc, .int .i64 qd]] w fun e w' => e = .returned (.bool true) ∧ Below w.heap.size w w' := by
  obtain ⟨a1, p1, rfl⟩ := h1.sl.val
  obtain ⟨a2, p2, rfl⟩ := h2.sl.val
  obtain ⟨a3, p3, rfl⟩ := h3.sl.val
  have A2 := alloc2' w (.cells #[.slice a1 n1 p1, .slice a2 n2 p2, .slice a3 n3 p3] 25) (.cells #[.int .i64 qa, .int .i64 qb, .int .i64 qc, .int .i64 qd] 26)
  have HA := Lib.hid A2
  have H1 := Lib.hid h1; have H2 := Lib.hid h2; have H3 := Lib.hid h3
  have CQ := Lib.hid fun W => ask_c qa qb qc qd W ha hb hc hd
  have QM := Lib.hid (askQ_m qa qb qc qd)
  have HQ : Hid (askQ qa qb qc qd = ⟨pickI qa 3, pickI qb 8, pickI qc 100, pickI qd 100⟩) := Lib.hid rfl
  rw [HQ.out] at QM
  generalize pickI qa 3 = x0 at *
  generalize pickI qb 8 = x1 at *
  generalize pickI qc 100 = x2 at *
  generalize pickI qd 100 = x3 at *
  clear A2 h1 h2 h3 ha hb hc hd HQ
  go_enter Try.func6, Try.ntmps6
  go_wp2_with fail
  refine (sane8_c _).mono ?_
  rintro e w1 ⟨rfl, f1⟩
  have B1 := f1.keep HA.out.1 (by simp)
  have B2 := f1.keep HA.out.2 (by simp)
  have F1 := Lib.hid (((Fr.alloc [] w _).trans (Fr.alloc [] _ _)).trans f1)
  clear f1 HA
  have c0 := cell_of_blk B1 0; have c1 := cell_of_blk B1 1; have c2 := cell_of_blk B1 2
  have CM := Lib.hid (made_c _ _ _ n1 n2 n3 is1 is2 is3 w1 (H1.out.same F1.out) (H2.out.same F1.out) (H3.out.same F1.out))
  have HB2 := Lib.hid B2
  clear B1 B2
  go_wp2_with fail
  refine CM.out.mono ?_
  rintro e w2 ⟨f2, vc, vr, vf, ys, c, rfl, hm, ho⟩
  clear c0 c1 c2 CM
  obtain ⟨ac, pc, rfl⟩ := (sl_of_row ho.cls).val
  obtain ⟨ar, pr, rfl⟩ := (sl_of_row ho.rps).val
  obtain ⟨af, pf, rfl⟩ := (sl_of_row ho.fas).val
  have B2 := f2.keep HB2.out (by simp)
  have hb2 := blk_lt B2
  have c0 := cell_of_blk B2 0; have c1 := cell_of_blk B2 1; have c2 := cell_of_blk B2 2; have c3 := cell_of_blk B2 3
  have F2 := Lib.hid (F1.out.trans f2); have HM := Lib.hid hm; have HO := Lib.hid (ho.older (N' := w.heap.size + 3) (by have := F1.out.size; omega))
  clear f2 hm ho B2
  go_wp2_with fail
  refine (CQ.out _).mono ?_
  rintro e w3 ⟨rfl, f3⟩
  clear c0 c1 c2 c3
  have L0 : Hid (LawSt w w2.heap.size w3.heap.size (.slice ac ys.length pc) (.slice ar c.rps.length pr) (.slice af c.fas.length pf) ys c ⟨x0, x1, x2, x3⟩ (w3.alloc (.cells #[.int .i64 x0, .int .i64 x1, .int .i64 x2, .int .i64 x3] 37))) := Lib.hid ⟨((F2.out.trans (Fr.alloc _ _ _)).trans f3).trans (Fr.alloc _ _ _), heap_alloc_old _ (f3.keep (heap_alloc_new _ _) (by simp)), heap_alloc_new _ _, (HO.out.same ((Fr.alloc _ _ _).trans f3)).same (Fr.alloc _ _ _), HM.out, ok_of HM.out QM.out⟩
  obtain ⟨a, ea⟩ : ∃ a, decideA c ⟨x0, x1, x2, x3⟩ = a := ⟨_, rfl⟩
  obtain ⟨l, el⟩ : ∃ l, decideL c ⟨x0, x1, x2, x3⟩ = l := ⟨_, rfl⟩
  have CD := Lib.hid (decide_ok L0.out.at_ L0.out.ok a l ea el)
  have EA := Lib.hid ea; have EL := Lib.hid el
  have hl := decide_len L0.out.ok
  rw [el] at hl
  have SP : Hid (∀ i, i < l.length → checkB c ⟨x0, x1, x2, x3⟩ a (l.eraseIdx i) = false) := Lib.hid fun i hi => by
    have := spare_checks L0.out.ok i (by rw [el]; exact hi)
    rwa [ea, el] at this
  have hs23 : w2.heap.size < w3.heap.size := by have := f3.size; simp at this; omega
  have d0 : w3.cell? ⟨w2.heap.size, 0, none⟩ = _ := cell_of_blk (f3.keep (heap_alloc_new _ _) (by simp)) 0
  have d1 : w3.cell? ⟨w2.heap.size, 1, none⟩ = _ := cell_of_blk (f3.keep (heap_alloc_new _ _) (by simp)) 1
  have d2 : w3.cell? ⟨w2.heap.size, 2, none⟩ = _ := cell_of_blk (f3.keep (heap_alloc_new _ _) (by simp)) 2
  clear ea el f3 hb2 HO F2 F1 HB2
  unfold rbV qnV at CD
  simp only at CD
  go_wp2_with fail
  refine CD.out.mono ?_
  rintro e w4 ⟨f4, v, rfl, hr, hn⟩
  clear d0 d1 d2 CD
  have L4 := Lib.hid (L0.out.same f4)
  obtain ⟨g, cap, hv, _⟩ := hr.form hl.1
  subst hv
  have HR := Lib.hid hr
  clear L0 f4 hr hn hs23
  obtain ⟨hl0, hl20⟩ := hl
  have hz : ((l.length : Int) == 0) = false := beq_eq_false_iff_ne.2 (by omega)
  go_wp2_with fail
  clear hz
  go_loopw [10] (fun i wr => ∃ k : Nat, k ≤ l.length ∧ i = .int .i64 k ∧ Hid (LawSt w w2.heap.size w3.heap.size (.slice ac ys.length pc) (.slice ar c.rps.length pr) (.slice af c.fas.length pf) ys c ⟨x0, x1, x2, x3⟩ wr) ∧ Hid (FdRow wr (.slice (some ⟨g, 0, none⟩) l.length cap) l)) (fun i _ => l.length - (intOf i).toNat)
  case atStart => exact ⟨0, Nat.zero_le _, rfl, L4, HR⟩
  case round =>
    obtain ⟨k, hk, rfl, L5, R5⟩ := hrel
    by_cases hlt : k < l.length
    · have hcap : l.length ≤ cap ∧ cap ≤ 9223372036854775807 := by
        rcases R5.out.2 with ⟨h0, _⟩ | ⟨g', cap', cur, hv, _, _, r1, r2, _⟩
        · cases h0
        · cases hv; exact ⟨r1, r2⟩
      obtain ⟨hlc, hcm⟩ := hcap
      have hkc : k ≤ cap := by omega
      have hk1 : k + 1 ≤ l.length := hlt
      have hki : (0 : Int) ≤ (k : Int) + 1 := by omega
      have hki2 : (k : Int) + 1 ≤ (l.length : Int) := by omega
      obtain ⟨off, hif, hoff⟩ : ∃ off, (if cap = k + 1 then (some ⟨g, 0, none⟩ : Option Addr) else some ⟨g, (k + 1) * 4, none⟩) = some ⟨g, off, none⟩ ∧ (off = (k + 1) * 4 ∨ l.length - (k + 1) = 0) := by
        split
        · exact ⟨0, rfl, .inr (by omega)⟩
        · exact ⟨_, rfl, .inl rfl⟩
      have HT := Lib.hid (srcAt_part R5.out (k + 1) (l.length - (k + 1)) (cap - (k + 1)) off (by omega) hoff)
      have HH := Lib.hid (srcAt_part R5.out 0 k cap 0 (by omega) (.inl (by simp)))
      rw [fd_tail] at HT
      rw [fd_head] at HH
      have HE := Lib.hid (erase_flat l k hlt)
      have HEL : Hid ((l.eraseIdx k).length = k + (l.length - (k + 1))) := Lib.hid (by rw [List.length_eraseIdx, if_pos hlt]; omega)
      clear hoff
      go_wp2_with fail
      have hw1 : IntKind.i64.wrap (↑k + 1) = ↑k + 1 := IntWalk.i64_in _ (by omega)
      have hw2 : ((k : Int) + 1).toNat = k + 1 := by omega
      refine reg_mix (fun _ => True) [1, 2, 3, 5, 6, 7, 8, 0, 4, 9, 10] (by kernel_rfl) (by kernel_rfl) (by kernel_rfl) rfl trivial ?_
      iterate 7 (refine mix_take1 (v := ?_) rfl rfl rfl rfl (fun w _ => ?_) ?_; rotate_left; (focus (go_simp; rfl)); simp only [List.setIfInBounds_toArray, List.set_cons_succ, List.set_cons_zero])
      clear hw1 hw2 hif hki hki2
      refine mix_do rfl rfl rfl (fun K hK => ?_)
      go_simp
      refine hK _ _ trivial ?_
      clear hK K
      try simp only [Act.put, List.setIfInBounds_toArray, List.set_cons_succ, List.set_cons_zero]
      have FA : Fr [] wr (wr.alloc (.cells #[] 63)).drew := (Fr.alloc _ _ _).trans (Fr.drew _ _)
      have RE : (wr.alloc (.cells #[] 63)).drew.ownsRow 0 63 4 (.slice (some ⟨wr.heap.size, 0, none⟩) 0 0) 0 [] := row_empty wr 63 4
      have hsz : wr.heap.size < (wr.alloc (.cells #[] 63)).drew.heap.size := by show wr.heap.size < (wr.alloc (.cells #[] 63)).heap.size; simp
      generalize (wr.alloc (.cells #[] 63)).drew = WA at *
      refine mix_do (o := ⟨some 42, _, _, _, _, _⟩) rfl rfl rfl (fun K hK => ?_)
      refine wp_append_src (.tmp 38) (.tmp 41) 28 63 _ 4 32 rfl Try.underlying28 infoFd rfl (by decide) (.slice (some ⟨wr.heap.size, 0, none⟩) 0 0) 0 [] rfl RE (.slice (some ⟨g, 0, none⟩) k cap) k _ rfl (HH.out.same FA) (by rw [fdC_len]; simp; omega) (fdC_one _) (by omega) (by omega) ?_
      intro ga cap1 W1 r1 f1 b1
      refine hK _ _ trivial ?_
      clear hK K
      try simp only [Act.put, List.setIfInBounds_toArray, List.set_cons_succ, List.set_cons_zero]
      have F1 : Fr [] wr W1 := FA.step f1 (fun i hi => by simp [Value.ownBlock] at hi; exact .inr (by omega))
      refine mix_do (o := ⟨some 47, _, _, _, _, _⟩) rfl rfl rfl (fun K hK => ?_)
      refine wp_append_src (.tmp 42) (.tmp 46) 28 63 _ 4 32 rfl Try.underlying28 infoFd rfl (by decide) (.slice ga (0 + k) cap1) (0 + k) _ rfl r1 (.slice (some ⟨g, off, none⟩) (l.length - (k + 1)) (cap - (k + 1))) _ _ rfl (HT.out.same F1) (by rw [fdC_len]; simp) (fdC_one _) (by omega) (by omega) ?_
      intro gb cap2 W2 r2 f2 b2
      refine hK _ _ trivial ?_
      clear hK K
      try simp only [Act.put, List.setIfInBounds_toArray, List.set_cons_succ, List.set_cons_zero]
      have F2 : Fr [] wr W2 := F1.step f2 (fun i hi => by
        right
        rcases b1 with b1 | b1
        · rw [b1] at hi; simp [Value.ownBlock] at hi; omega
        · rw [b1] at hi; simp at hi; have := FA.size; omega)
      refine mix_take1 (v := ?_) rfl rfl rfl rfl (fun w _ => ?_) ?_
      rotate_left
      (focus (go_simp; rfl))
      simp only [List.setIfInBounds_toArray, List.set_cons_succ, List.set_cons_zero]
      refine mix_end ?_
      have L6 := Lib.hid (L5.out.same F2)
      have R6 := Lib.hid (row_fr R5.out F2 (by simp))
      have SL : Hid (Sl W2 (.slice gb (k + (l.length - (k + 1))) cap2) (l.eraseIdx k).length ((l.eraseIdx k).flatMap fdC)) := Lib.hid (by
        have := sl_of_row r2
        rw [HEL.out, HE.out]
        simpa using this)
      have CC := Lib.hid (check_c _ _ _ _ ys c ⟨x0, x1, x2, x3⟩ a (l.eraseIdx k) _ L6.out.at_ SL.out)
      rw [SP.out k hlt] at CC
      have d0 := cell_of_blk L6.out.cbox 0
      have d1 := cell_of_blk L6.out.cbox 1
      have d2 := cell_of_blk L6.out.cbox 2
      have e0 := cell_of_blk L6.out.qbox 0
      have e1 := cell_of_blk L6.out.qbox 1
      have e2 := cell_of_blk L6.out.qbox 2
      have e3 := cell_of_blk L6.out.qbox 3
      unfold rbV qnV at CC
      simp only at CC
      clear r1 r2 f1 f2 b1 b2 RE F1 F2 FA hsz
      go_wp2_with fail
      ((with_reducible refine CC.out.mono ?_); skip)
      rintro e w5 ⟨rfl, f5⟩
      clear d0 d1 d2 e0 e1 e2 e3
      have L7 := Lib.hid (L6.out.same f5)
      have R7 := Lib.hid (row_fr R6.out f5 (by simp))
      clear f5
      go_wp2_with fail
      go_roundw
      case rel => exact ⟨k + 1, by omega, by go_num, L7, R7⟩
      case measure => simp [intOf]; omega
    · obtain rfl : k = l.length := by omega
      go_wp2_with fail
      go_ret
      exact ⟨rfl, L5.out.fr.below⟩

set_option maxRecDepth 100000 in
theorem walk_StatuteSpare {H : Type} {enc : TypeId × Value → H} {base : Nat} (W : World) {v0 v1 : Value} {d0 d1 : DataW H} {p0 p1 : List MemPlace} (k0 : Value.okWide Try.prog W .any base 25 v0) (h0 : DataW.Trod enc Try.prog W 0 (fun _ => true) true 25 v0 d0 p0) (k1 : Value.okWide Try.prog W .any base 26 v1) (h1 : DataW.Trod enc Try.prog W 0 (fun _ => true) true 26 v1 d1 p1) :
    Calls Try.prog 6 #[v0, v1] W fun e W' => e = .returned (.bool true) ∧ Below W.heap.size W W' := by
  obtain ⟨_, _, _, n1, n2, n3, is1, is2, is3, rfl, a1, a2, a3⟩ := open_numbers k0 h0
  obtain ⟨a, b, c, d, rfl, ha, hb, hc, hd⟩ := open_i4 k1 h1
  exact spare_c _ _ _ n1 n2 n3 is1 is2 is3 a b c d W a1 a2 a3 ha hb hc hd

end Go.Proofs.Ytljdenoheflkoaa
