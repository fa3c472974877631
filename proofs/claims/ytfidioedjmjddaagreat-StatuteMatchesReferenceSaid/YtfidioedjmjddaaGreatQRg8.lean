/-
  dialtoneref08: Check.
-/
import Derived.Test.YtfidioedjmjddaaGreatQRg7
namespace Go.Proofs.YtfidioedjmjddaaGreat
open Go.RowKit Go.Lib

theorem provesGo_eq (c : Rb) (fs cs : List Int) (l : List Fd) : ∀ (r : List Fd) (last : Int), provesGo c fs cs l last r = (ascGo 20 last (r.map (·.says)) && r.all (fun x => rightB c fs cs x l))
  | [], _ => rfl
  | x :: r, last => by
    have e : ((20 : Int) - 1) = 19 := rfl
    rw [provesGo, provesGo_eq c fs cs l r x.says]
    simp only [List.map_cons, ascGo, List.all_cons, e]
    cases isInB x.says (last + 1) 19 <;> cases rightB c fs cs x l <;> cases ascGo 20 x.says (r.map (·.says)) <;> rfl
theorem ascGo_len {b : Int} : ∀ {l : List Int} {last : Int}, ascGo b last l = true → last < b → (l.length : Int) ≤ b - 1 - last
  | [], last, _, h => by simp; omega
  | n :: l, last, h, _ => by
    simp only [ascGo, Bool.and_eq_true, isInB_iff] at h
    have := ascGo_len h.2 (by omega)
    simp only [List.length_cons]; omega
theorem check_eq {c : Rb} {q : Qn} (h : okB c q = true) (hh : Bool) (l : List Fd) : checkB c q hh l = (ascGo 20 (-1) (l.map (·.says)) && l.all (fun x => rightB c (factsOf c q) (clausesOf c q) x l) && decide (l ≠ []) && decide (lastOf l = q.says) && ((l.getLast?.map (·.holds)).getD false == hh)) := by
  unfold checkB provesB
  rw [h, provesGo_eq, Bool.true_and]
theorem check_long {c : Rb} {q : Qn} (hh : Bool) (l : List Fd) (hl : 20 < l.length) : checkB c q hh l = false := by
  cases ho : okB c q with
  | false => unfold checkB; rw [ho]; rfl
  | true =>
    rw [check_eq ho]
    cases ha : ascGo 20 (-1) (l.map (·.says)) with
    | false => rfl
    | true => have := ascGo_len ha (by omega); simp at this; omega

set_option maxRecDepth 1000000 in
set_option maxHeartbeats 4000000 in
theorem rcheck_c (vc vr vf vl : Value) (ys : List ClV) (c : Rb) (q : Qn) (hh : Bool) (l : List Fd) (w : World) (h : RbAt w vc vr vf ys c) (hl : Sl w vl l.length (l.flatMap fdC)) : Calls Tryz.prog 22 #[rbV vc vr vf, qnV q, .bool hh, vl] w fun e w' => e = .returned (.bool (checkB c q hh l)) ∧ Fr [] w w' := by
  obtain ⟨ac, pc, rfl⟩ := h.cls.sl.val
  obtain ⟨ar, pr, rfl⟩ := h.rps.val
  obtain ⟨af, pf, rfl⟩ := h.fas.val
  have hyl := h.cls.sl.len; have hrl := h.rps.len; have hfl := h.fas.len
  have hcl : c.cls.length = ys.length := by rw [h.eq, List.length_map]
  obtain ⟨th, sa, at_, kn⟩ := q
  have HR := Lib.hid h
  clear h
  obtain ⟨al, pl, rfl⟩ := hl.val
  have hll := hl.len
  have HL := Lib.hid hl
  clear hl
  have A2 := allocs_at [.cells #[.slice ac ys.length pc, .slice ar c.rps.length pr, .slice af c.fas.length pf] 30, .cells #[.int .i64 th, .int .i64 sa, .int .i64 at_, .int .i64 kn] 33] w
  have F2 := allocs_fr [.cells #[.slice ac ys.length pc, .slice ar c.rps.length pr, .slice af c.fas.length pf] 30, .cells #[.int .i64 th, .int .i64 sa, .int .i64 at_, .int .i64 kn] 33] w
  have HB : Hid (w.heap.size < w.heap.size + 1 ∧ ∀ W, Fr [] ((w.alloc (.cells #[.slice ac ys.length pc, .slice ar c.rps.length pr, .slice af c.fas.length pf] 30)).alloc (.cells #[.int .i64 th, .int .i64 sa, .int .i64 at_, .int .i64 kn] 33)) W → W.heap[w.heap.size]? = some (.cells #[.slice ac ys.length pc, .slice ar c.rps.length pr, .slice af c.fas.length pf] 30) ∧ W.heap[w.heap.size + 1]? = some (.cells #[.int .i64 th, .int .i64 sa, .int .i64 at_, .int .i64 kn] 33)) := Lib.hid ⟨by omega, fun W hf => ⟨hf.keep (A2 0 (by simp)) (by simp), hf.keep (A2 1 (by simp)) (by simp)⟩⟩
  have HF2 : Hid (Fr [] w ((w.alloc (.cells #[.slice ac ys.length pc, .slice ar c.rps.length pr, .slice af c.fas.length pf] 30)).alloc (.cells #[.int .i64 th, .int .i64 sa, .int .i64 at_, .int .i64 kn] 33))) := Lib.hid F2
  clear A2 F2
  go_enter Tryz.func22, Tryz.ntmps22
  go_wp2_with fail
  refine (rvalid_c _ _ _ ys c _ (HR.out.same HF2.out)).mono ?_
  rintro e w1 ⟨rfl, f1⟩
  have G1 := Lib.hid f1
  clear f1
  cases hv : validB c with
  | false =>
    have HX : Hid (checkB c ⟨th, sa, at_, kn⟩ hh l = false) := Lib.hid (by unfold checkB okB; rw [hv]; rfl)
    clear hv
    go_wp2_with fail
    go_ret
    exact ⟨by rw [HX.out]; rfl, HF2.out.trans G1.out⟩
  | true =>
    have HV := Lib.hid hv
    clear hv
    have bk := HB.out.2 _ G1.out
    have b0 := cell_of_blk bk.1 0; have b1 := cell_of_blk bk.1 1; have b2 := cell_of_blk bk.1 2
    have q0 := cell_of_blk bk.2 0; have q1 := cell_of_blk bk.2 1; have q2 := cell_of_blk bk.2 2; have q3 := cell_of_blk bk.2 3
    clear bk
    go_wp2_with fail
    clear b0 b1 b2 q0 q1 q2 q3
    refine (rasks_c ⟨th, sa, at_, kn⟩ _).mono ?_
    rintro e W3 ⟨rfl, f2⟩
    have F3 := Lib.hid (G1.out.trans f2)
    clear f2
    cases hq : asksB ⟨th, sa, at_, kn⟩ with
    | false =>
      have HX : Hid (checkB c ⟨th, sa, at_, kn⟩ hh l = false) := Lib.hid (by unfold checkB okB; rw [HV.out, hq]; rfl)
      clear hq
      go_wp2_with fail
      go_ret
      exact ⟨by rw [HX.out]; rfl, HF2.out.trans F3.out⟩
    | true =>
      have HOK : Hid (okB c ⟨th, sa, at_, kn⟩ = true) := Lib.hid (by unfold okB; rw [HV.out, hq]; rfl)
      clear hq HV G1
      by_cases hl0 : l.length = 0
      · have HX : Hid (checkB c ⟨th, sa, at_, kn⟩ hh l = false) := Lib.hid (by rw [List.eq_nil_of_length_eq_zero hl0, check_eq HOK.out]; simp)
        have hb : ((l.length : Int) == 0) = true := by simp [hl0]
        clear hl0
        go_wp2_with fail
        go_ret
        exact ⟨by rw [HX.out]; rfl, HF2.out.trans F3.out⟩
      · have hb : ((l.length : Int) == 0) = false := beq_false_of_ne (by omega)
        by_cases hl20 : 20 < l.length
        · have HX : Hid (checkB c ⟨th, sa, at_, kn⟩ hh l = false) := Lib.hid (check_long hh l hl20)
          have hb2 : decide ((20 : Int) < (l.length : Int)) = true := decide_eq_true (by omega)
          go_wp2_with fail
          go_ret
          exact ⟨by rw [HX.out]; rfl, HF2.out.trans F3.out⟩
        · have hb2 : decide ((20 : Int) < (l.length : Int)) = false := decide_eq_false (by omega)
          go_wp2_with fail
          go_loopw [9] (fun i wr => ∃ k : Nat, k ≤ l.length ∧ i = .int .i64 k ∧ Hid (ascGo 20 (-1) (l.map (·.says)) = ascGo 20 (lastK (l.map (·.says)) k) ((l.map (·.says)).drop k) ∧ -1 ≤ lastK (l.map (·.says)) k) ∧ Hid (Fr [] W3 wr)) (fun i _ => l.length - (intOf i).toNat)
          case atStart => exact ⟨0, Nat.zero_le _, rfl, Lib.hid ⟨by simp [lastK], by simp [lastK]⟩, Lib.hid (Fr.refl _ _)⟩
          case round =>
            obtain ⟨k, hk, rfl, H, HF⟩ := hrel
            by_cases hlt : k < l.length
            · obtain ⟨b, off, ha, hc⟩ := (HL.out.same (HF2.out.trans (F3.out.trans HF.out))).at_ (by omega)
              subst ha
              have HA := Lib.hid (ascGo_at (below := 20) (l := l.map (·.says)) (k := k) (by simpa using hlt) H.out.1 H.out.2)
              have c1 : wr.cell? ⟨b, off + k * 4, none⟩ = some (.int .i64 l[k].says) := by have := hc (k * 4 + 0) _ ((flat_get (enc := fdC) (k := 4) (fun _ => rfl) l k hlt 0 (by omega)).trans rfl); simpa [← Nat.add_assoc] using this
              simp only [List.getElem_map] at HA
              have e19 : ((20 : Int) - 1) = 19 := rfl
              rw [e19] at HA
              cases hin : isInB l[k].says 0 19 with
              | false =>
                have HX : Hid (checkB c ⟨th, sa, at_, kn⟩ hh l = false) := Lib.hid (by rw [check_eq HOK.out, HA.out.2 (.inl hin)]; rfl)
                have CI := Lib.hid fun W => rin_c l[k].says 0 19 W
                rw [hin] at CI
                clear hin hc H HA
                generalize l[k].says = x at *
                go_wp2_with fail
                refine reg_mix (Fr [] wr) [0, 1, 2, 3, 4, 5, 6, 7, 8, 9, 10, 11, 12, 13, 14, 15, 16, 17, 18, 19, 20, 21, 22, 23, 24] (by kernel_rfl) (by kernel_rfl) (by kernel_rfl) rfl (Fr.drew _ _) ?_
                have FC : Fr [] wr wr.drew := Fr.drew _ _
                generalize wr.drew = WC at FC ⊢
                iterate 5 (refine mix_take1 (v := ?_) rfl rfl rfl rfl (fun w hS => ?_) ?_; rotate_left; (focus (have s0 := hS.cel c1 (by simp); clear hS; go_simp; rfl)); simp only [List.setIfInBounds_toArray, List.set_cons_succ, List.set_cons_zero])
                refine mix_do rfl rfl rfl (fun K hK => ?_)
                go_simp
                refine (CI.out _).mono ?_
                rintro e w00 ⟨rfl, rfl⟩
                refine hK _ _ FC ?_
                clear hK K
                try simp only [Act.put, List.setIfInBounds_toArray, List.set_cons_succ, List.set_cons_zero]
                iterate 2 (refine mix_take1 (v := ?_) rfl rfl rfl rfl (fun w hS => ?_) ?_; rotate_left; (focus (clear hS; go_simp; rfl)); simp only [List.setIfInBounds_toArray, List.set_cons_succ, List.set_cons_zero])
                iterate 3 (refine mix_skipF rfl rfl rfl rfl rfl FC ?_; simp only [List.setIfInBounds_toArray, List.set_cons_succ, List.set_cons_zero])
                iterate 12 (refine mix_skipU rfl rfl rfl rfl rfl FC ?_; simp only [List.setIfInBounds_toArray, List.set_cons_succ, List.set_cons_zero])
                (refine mix_skipF rfl rfl rfl rfl rfl FC ?_; simp only [List.setIfInBounds_toArray, List.set_cons_succ, List.set_cons_zero])
                (refine mix_take1 (v := ?_) rfl rfl rfl rfl (fun w hS => ?_) ?_; rotate_left; (focus (clear hS; go_simp; rfl)); simp only [List.setIfInBounds_toArray, List.set_cons_succ, List.set_cons_zero])
                refine mix_end ?_
                clear c1 CI
                go_wp2_with fail
                go_ret
                exact ⟨by rw [HX.out]; rfl, HF2.out.trans (F3.out.trans (HF.out.trans FC))⟩
              | true =>
                have CI := Lib.hid fun W => rin_c l[k].says 0 19 W
                rw [hin] at CI
                rcases Nat.eq_zero_or_pos k with hk0 | hk0
                · subst hk0
                  simp only [Nat.zero_mul, Nat.add_zero] at c1
                  have HN := Lib.hid (HA.out.1 ⟨hin, by have := isInB_iff.1 hin; simp [lastK]; omega⟩)
                  clear hin hc H HA
                  generalize l[0].says = x at *
                  go_wp2_with fail
                  refine reg_mix (Fr [] wr) [0, 1, 2, 3, 4, 5, 6, 7, 8, 9, 10, 11, 12, 13, 14, 15, 16, 17, 18, 19, 20, 21, 22, 23, 24] (by kernel_rfl) (by kernel_rfl) (by kernel_rfl) rfl (Fr.drew _ _) ?_
                  have FC : Fr [] wr wr.drew := Fr.drew _ _
                  generalize wr.drew = WC at FC ⊢
                  iterate 5 (refine mix_take1 (v := ?_) rfl rfl rfl rfl (fun w hS => ?_) ?_; rotate_left; (focus (have s0 := hS.cel c1 (by simp); clear hS; go_simp; rfl)); simp only [List.setIfInBounds_toArray, List.set_cons_succ, List.set_cons_zero])
                  refine mix_do rfl rfl rfl (fun K hK => ?_)
                  go_simp
                  refine (CI.out _).mono ?_
                  rintro e w00 ⟨rfl, rfl⟩
                  refine hK _ _ FC ?_
                  clear hK K
                  try simp only [Act.put, List.setIfInBounds_toArray, List.set_cons_succ, List.set_cons_zero]
                  iterate 2 (refine mix_take1 (v := ?_) rfl rfl rfl rfl (fun w hS => ?_) ?_; rotate_left; (focus (clear hS; go_simp; rfl)); simp only [List.setIfInBounds_toArray, List.set_cons_succ, List.set_cons_zero])
                  iterate 3 (refine mix_takeg (v := ?_) rfl rfl rfl rfl rfl rfl (fun w hS => ?_) ?_; rotate_left; (focus (clear hS; go_simp; rfl)); simp only [List.setIfInBounds_toArray, List.set_cons_succ, List.set_cons_zero])
                  iterate 12 (refine mix_skipT rfl rfl rfl rfl rfl FC ?_; simp only [List.setIfInBounds_toArray, List.set_cons_succ, List.set_cons_zero])
                  (refine mix_takeg (v := ?_) rfl rfl rfl rfl rfl rfl (fun w hS => ?_) ?_; rotate_left; (focus (clear hS; go_simp; rfl)); simp only [List.setIfInBounds_toArray, List.set_cons_succ, List.set_cons_zero])
                  (refine mix_take1 (v := ?_) rfl rfl rfl rfl (fun w hS => ?_) ?_; rotate_left; (focus (clear hS; go_simp; rfl)); simp only [List.setIfInBounds_toArray, List.set_cons_succ, List.set_cons_zero])
                  refine mix_end ?_
                  clear c1 CI
                  have HFN := Lib.hid (HF.out.trans FC)
                  clear FC HF
                  go_wp2_with fail
                  go_roundw
                  case rel => exact ⟨0 + 1, by omega, by go_num, HN, HFN⟩
                  case measure => simp [intOf]; omega
                · obtain ⟨k', rfl⟩ : ∃ k', k = k' + 1 := ⟨k - 1, by omega⟩
                  have hk' : k' < l.length := by omega
                  have c2 : wr.cell? ⟨b, off + k' * 4, none⟩ = some (.int .i64 l[k'].says) := by have := hc (k' * 4 + 0) _ ((flat_get (enc := fdC) (k := 4) (fun _ => rfl) l k' hk' 0 (by omega)).trans rfl); simpa [← Nat.add_assoc] using this
                  have hlk : lastK (l.map (·.says)) (k' + 1) = l[k'].says := by simp [lastK, hk']
                  rw [hlk] at HA
                  have hs1 : IntKind.i64.wrap ((k' : Int) + 1 - 1) = (k' : Int) := by rw [show (k' : Int) + 1 - 1 = (k' : Int) by omega]; exact IntWalk.i64_in _ (by omega)
                  have hs2 : IntKind.i64.wrap ((k' : Int) + 1 + -1) = (k' : Int) := by rw [show (k' : Int) + 1 + -1 = (k' : Int) + 1 - 1 by omega]; exact hs1
                  have hs3 : IntKind.i64.wrap (k' : Int) = (k' : Int) := IntWalk.i64_in _ (by omega)
                  have hk1 : (0 : Int) < (k' : Int) + 1 := by omega
                  have hk2 : decide ((0 : Int) < (k' : Int) + 1) = true := decide_eq_true hk1
                  have hki : (k' : Int) < (l.length : Int) := by omega
                  by_cases hle : l[k' + 1].says ≤ l[k'].says
                  · have HX : Hid (checkB c ⟨th, sa, at_, kn⟩ hh l = false) := Lib.hid (by rw [check_eq HOK.out, HA.out.2 (.inr hle)]; rfl)
                    clear hin hc hlk H HA
                    generalize l[k' + 1].says = x at *
                    generalize l[k'].says = y at *
                    go_wp2_with fail
                    refine reg_mix (Fr [] wr) [0, 1, 2, 3, 4, 5, 6, 7, 8, 9, 10, 11, 12, 13, 14, 15, 16, 17, 18, 19, 20, 21, 22, 23, 24] (by kernel_rfl) (by kernel_rfl) (by kernel_rfl) rfl (Fr.drew _ _) ?_
                    have FC : Fr [] wr wr.drew := Fr.drew _ _
                    generalize wr.drew = WC at FC ⊢
                    iterate 5 (refine mix_take1 (v := ?_) rfl rfl rfl rfl (fun w hS => ?_) ?_; rotate_left; (focus (have s0 := hS.cel c1 (by simp); have s1 := hS.cel c2 (by simp); clear hS; go_simp; rfl)); simp only [List.setIfInBounds_toArray, List.set_cons_succ, List.set_cons_zero])
                    refine mix_do rfl rfl rfl (fun K hK => ?_)
                    go_simp
                    refine (CI.out _).mono ?_
                    rintro e w00 ⟨rfl, rfl⟩
                    refine hK _ _ FC ?_
                    clear hK K
                    try simp only [Act.put, List.setIfInBounds_toArray, List.set_cons_succ, List.set_cons_zero]
                    iterate 2 (refine mix_take1 (v := ?_) rfl rfl rfl rfl (fun w hS => ?_) ?_; rotate_left; (focus (clear hS; go_simp; rfl)); simp only [List.setIfInBounds_toArray, List.set_cons_succ, List.set_cons_zero])
                    iterate 16 (refine mix_takeg (v := ?_) rfl rfl rfl rfl rfl rfl (fun w hS => ?_) ?_; rotate_left; (focus (have s0 := hS.cel c1 (by simp); have s1 := hS.cel c2 (by simp); clear hS; go_simp; rfl)); simp only [List.setIfInBounds_toArray, List.set_cons_succ, List.set_cons_zero])
                    (refine mix_take1 (v := ?_) rfl rfl rfl rfl (fun w hS => ?_) ?_; rotate_left; (focus (clear hS; go_simp; rfl)); simp only [List.setIfInBounds_toArray, List.set_cons_succ, List.set_cons_zero])
                    refine mix_end ?_
                    clear c1 c2 CI hs1 hs2 hs3 hk1 hk2 hki
                    go_wp2_with fail
                    go_ret
                    exact ⟨by rw [HX.out]; rfl, HF2.out.trans (F3.out.trans (HF.out.trans FC))⟩
                  · have HN := Lib.hid (HA.out.1 ⟨hin, by omega⟩)
                    have hle2 : decide (l[k' + 1].says ≤ l[k'].says) = false := by simpa using hle
                    clear hin hc hlk H hle HA
                    generalize l[k' + 1].says = x at *
                    generalize l[k'].says = y at *
                    go_wp2_with fail
                    refine reg_mix (Fr [] wr) [0, 1, 2, 3, 4, 5, 6, 7, 8, 9, 10, 11, 12, 13, 14, 15, 16, 17, 18, 19, 20, 21, 22, 23, 24] (by kernel_rfl) (by kernel_rfl) (by kernel_rfl) rfl (Fr.drew _ _) ?_
                    have FC : Fr [] wr wr.drew := Fr.drew _ _
                    generalize wr.drew = WC at FC ⊢
                    iterate 5 (refine mix_take1 (v := ?_) rfl rfl rfl rfl (fun w hS => ?_) ?_; rotate_left; (focus (have s0 := hS.cel c1 (by simp); have s1 := hS.cel c2 (by simp); clear hS; go_simp; rfl)); simp only [List.setIfInBounds_toArray, List.set_cons_succ, List.set_cons_zero])
                    refine mix_do rfl rfl rfl (fun K hK => ?_)
                    go_simp
                    refine (CI.out _).mono ?_
                    rintro e w00 ⟨rfl, rfl⟩
                    refine hK _ _ FC ?_
                    clear hK K
                    try simp only [Act.put, List.setIfInBounds_toArray, List.set_cons_succ, List.set_cons_zero]
                    iterate 2 (refine mix_take1 (v := ?_) rfl rfl rfl rfl (fun w hS => ?_) ?_; rotate_left; (focus (clear hS; go_simp; rfl)); simp only [List.setIfInBounds_toArray, List.set_cons_succ, List.set_cons_zero])
                    iterate 16 (refine mix_takeg (v := ?_) rfl rfl rfl rfl rfl rfl (fun w hS => ?_) ?_; rotate_left; (focus (have s0 := hS.cel c1 (by simp); have s1 := hS.cel c2 (by simp); clear hS; go_simp; rfl)); simp only [List.setIfInBounds_toArray, List.set_cons_succ, List.set_cons_zero])
                    (refine mix_take1 (v := ?_) rfl rfl rfl rfl (fun w hS => ?_) ?_; rotate_left; (focus (clear hS; go_simp; rfl)); simp only [List.setIfInBounds_toArray, List.set_cons_succ, List.set_cons_zero])
                    refine mix_end ?_
                    clear c1 c2 CI hs1 hs2 hs3 hk1 hk2 hki hle2
                    have HFN := Lib.hid (HF.out.trans FC)
                    clear FC HF
                    go_wp2_with fail
                    go_roundw
                    case rel => exact ⟨k' + 1 + 1, by omega, by go_num, HN, HFN⟩
                    case measure => simp [intOf]; omega
            · obtain rfl : k = l.length := by omega
              have HASC : Hid (ascGo 20 (-1) (l.map (·.says)) = true) := Lib.hid (by
                have h := H.out.1
                rw [List.drop_of_length_le (by simp)] at h
                rw [h]; rfl)
              have F4 := Lib.hid (F3.out.trans HF.out)
              obtain ⟨W4, hw4⟩ : ∃ W : World, W = wr := ⟨_, rfl⟩
              subst hw4
              clear H HF
              go_wp2_with fail
              go_loopw [10] (fun i wr => ∃ k : Nat, k ≤ l.length ∧ i = .int .i64 k ∧ Hid ((l.take k).all (fun x => rightB c (factsOf c ⟨th, sa, at_, kn⟩) (clausesOf c ⟨th, sa, at_, kn⟩) x l) = true) ∧ Hid (Fr [] W4 wr)) (fun i _ => l.length - (intOf i).toNat)
              case atStart => exact ⟨0, Nat.zero_le _, rfl, Lib.hid rfl, Lib.hid (Fr.refl _ _)⟩
              case round =>
                obtain ⟨k, hk, rfl, HA, HF⟩ := hrel
                have bk := HB.out.2 _ (F4.out.trans HF.out)
                have b0 := cell_of_blk bk.1 0; have b1 := cell_of_blk bk.1 1; have b2 := cell_of_blk bk.1 2
                have q0 := cell_of_blk bk.2 0; have q1 := cell_of_blk bk.2 1; have q2 := cell_of_blk bk.2 2; have q3 := cell_of_blk bk.2 3
                clear bk
                by_cases hlt : k < l.length
                · obtain ⟨b, off, ha, hc⟩ := (HL.out.same (HF2.out.trans (F4.out.trans HF.out))).at_ (by omega)
                  subst ha
                  obtain ⟨x, hx⟩ : ∃ x, l[k] = x := ⟨_, rfl⟩
                  have HXE := Lib.hid hx
                  have x0 := hc (k * 4 + 0) _ ((flat_get (enc := fdC) (k := 4) (fun _ => rfl) l k hlt 0 (by omega)).trans rfl)
                  have x1 := hc (k * 4 + 1) _ ((flat_get (enc := fdC) (k := 4) (fun _ => rfl) l k hlt 1 (by omega)).trans rfl)
                  have x2 := hc (k * 4 + 2) _ ((flat_get (enc := fdC) (k := 4) (fun _ => rfl) l k hlt 2 (by omega)).trans rfl)
                  have x3 := hc (k * 4 + 3) _ ((flat_get (enc := fdC) (k := 4) (fun _ => rfl) l k hlt 3 (by omega)).trans rfl)
                  rw [hx] at x0 x1 x2 x3
                  simp only [Nat.add_zero, ← Nat.add_assoc] at x0 x1 x2 x3
                  obtain ⟨M, hM⟩ : ∃ M, rightB c (factsOf c ⟨th, sa, at_, kn⟩) (clausesOf c ⟨th, sa, at_, kn⟩) x l = M := ⟨_, rfl⟩
                  have HM := Lib.hid hM
                  have HBAD : Hid (rightB c (factsOf c ⟨th, sa, at_, kn⟩) (clausesOf c ⟨th, sa, at_, kn⟩) x l = false → l.all (fun x => rightB c (factsOf c ⟨th, sa, at_, kn⟩) (clausesOf c ⟨th, sa, at_, kn⟩) x l) = false) := Lib.hid fun hq => by
                    cases h5 : l.all (fun x => rightB c (factsOf c ⟨th, sa, at_, kn⟩) (clausesOf c ⟨th, sa, at_, kn⟩) x l) with
                    | false => rfl
                    | true =>
                      have := List.all_eq_true.1 h5 _ (List.getElem_mem hlt)
                      rw [HXE.out, hq] at this; cases this
                  have CR := Lib.hid fun (W : World) (hf : Fr [] wr W) => rright_c _ _ _ (.slice (some ⟨b, off, none⟩) l.length pl) ys c ⟨th, sa, at_, kn⟩ x l W (HR.out.same (HF2.out.trans ((F4.out.trans HF.out).trans hf))) (HL.out.same (HF2.out.trans ((F4.out.trans HF.out).trans hf)))
                  rw [hM] at CR
                  obtain ⟨xs, xh, xfa, xcl⟩ := x
                  unfold rbV qnV fdV at CR
                  simp only at x0 x1 x2 x3 CR
                  clear hx hM hc
                  go_wp2_with fail
                  refine reg_mix (Fr [] wr) [0, 1, 2, 3, 4, 5, 6, 7, 8] (by kernel_rfl) (by kernel_rfl) (by kernel_rfl) rfl (Fr.drew _ _) ?_
                  have FC : Fr [] wr wr.drew := Fr.drew _ _
                  generalize wr.drew = WC at FC ⊢
                  iterate 7 (refine mix_take1 (v := ?_) rfl rfl rfl rfl (fun w hS => ?_) ?_; rotate_left; (focus (have sb0 := hS.cel b0 (by simp); have sb1 := hS.cel b1 (by simp); have sb2 := hS.cel b2 (by simp); have sq0 := hS.cel q0 (by simp); have sq1 := hS.cel q1 (by simp); have sq2 := hS.cel q2 (by simp); have sq3 := hS.cel q3 (by simp); have sx0 := hS.cel x0 (by simp); have sx1 := hS.cel x1 (by simp); have sx2 := hS.cel x2 (by simp); have sx3 := hS.cel x3 (by simp); clear hS; go_simp; rfl)); simp only [List.setIfInBounds_toArray, List.set_cons_succ, List.set_cons_zero])
                  refine mix_do rfl rfl rfl (fun K hK => ?_)
                  go_simp
                  refine (CR.out _ FC).mono ?_
                  rintro e wq ⟨rfl, fq⟩
                  have FC := FC.trans fq
                  clear fq
                  refine hK _ _ FC ?_
                  clear hK K
                  try simp only [Act.put, List.setIfInBounds_toArray, List.set_cons_succ, List.set_cons_zero]
                  (refine mix_take1 (v := ?_) rfl rfl rfl rfl (fun w hS => ?_) ?_; rotate_left; (focus (clear hS; go_simp; rfl)); simp only [List.setIfInBounds_toArray, List.set_cons_succ, List.set_cons_zero])
                  cases M
                  · refine mix_end ?_
                    clear b0 b1 b2 q0 q1 q2 q3
                    clear x0 x1 x2 x3 CR
                    have HX : Hid (checkB c ⟨th, sa, at_, kn⟩ hh l = false) := Lib.hid (by rw [check_eq HOK.out, HBAD.out HM.out]; simp)
                    go_wp2_with fail
                    go_ret
                    exact ⟨by rw [HX.out]; rfl, HF2.out.trans (F4.out.trans (HF.out.trans FC))⟩
                  · refine mix_end ?_
                    clear b0 b1 b2 q0 q1 q2 q3
                    clear x0 x1 x2 x3 CR
                    have HN : Hid ((l.take (k + 1)).all (fun x => rightB c (factsOf c ⟨th, sa, at_, kn⟩) (clausesOf c ⟨th, sa, at_, kn⟩) x l) = true) := Lib.hid (by rw [List.take_succ_eq_append_getElem hlt, List.all_append, HA.out, HXE.out]; simp [HM.out])
                    have HFN := Lib.hid (HF.out.trans FC)
                    clear FC HF
                    go_wp2_with fail
                    go_roundw
                    case rel => exact ⟨k + 1, by omega, by go_num, HN, HFN⟩
                    case measure => simp [intOf]; omega
                · obtain rfl : k = l.length := by omega
                  have HALL : Hid (l.all (fun x => rightB c (factsOf c ⟨th, sa, at_, kn⟩) (clausesOf c ⟨th, sa, at_, kn⟩) x l) = true) := Lib.hid (by have := HA.out; rwa [List.take_length] at this)
                  obtain ⟨m, hm⟩ : ∃ m, l.length = m + 1 := ⟨l.length - 1, by omega⟩
                  have hml : m < l.length := by omega
                  obtain ⟨b, off, ha, hc⟩ := (HL.out.same (HF2.out.trans (F4.out.trans HF.out))).at_ (by omega)
                  subst ha
                  obtain ⟨x, hx⟩ : ∃ x, l[m] = x := ⟨_, rfl⟩
                  have x0 := hc (m * 4 + 0) _ ((flat_get (enc := fdC) (k := 4) (fun _ => rfl) l m hml 0 (by omega)).trans rfl)
                  have x1 := hc (m * 4 + 1) _ ((flat_get (enc := fdC) (k := 4) (fun _ => rfl) l m hml 1 (by omega)).trans rfl)
                  have x2 := hc (m * 4 + 2) _ ((flat_get (enc := fdC) (k := 4) (fun _ => rfl) l m hml 2 (by omega)).trans rfl)
                  have x3 := hc (m * 4 + 3) _ ((flat_get (enc := fdC) (k := 4) (fun _ => rfl) l m hml 3 (by omega)).trans rfl)
                  rw [hx] at x0 x1 x2 x3
                  simp only [Nat.add_zero, ← Nat.add_assoc] at x0 x1 x2 x3
                  have hgl : l.getLast? = some x := by rw [List.getLast?_eq_getElem?, hm, Nat.add_sub_cancel, List.getElem?_eq_getElem hml, hx]
                  have hne : l ≠ [] := by intro h0; rw [h0] at hml; simp at hml
                  have HX : Hid (checkB c ⟨th, sa, at_, kn⟩ hh l = ((x.says == sa) && (x.holds == hh))) := Lib.hid (by
                    rw [check_eq HOK.out, HASC.out, HALL.out, decide_eq_true hne]
                    unfold lastOf
                    rw [hgl]
                    rfl)
                  have hs1 : IntKind.i64.wrap ((l.length : Int) - 1) = (m : Int) := by rw [show (l.length : Int) - 1 = (m : Int) by omega]; exact IntWalk.i64_in _ (by omega)
                  have hs2 : IntKind.i64.wrap ((l.length : Int) + -1) = (m : Int) := by rw [show (l.length : Int) + -1 = (m : Int) by omega]; exact IntWalk.i64_in _ (by omega)
                  have hki : (m : Int) < (l.length : Int) := by omega
                  have F5 := Lib.hid (F4.out.trans HF.out)
                  obtain ⟨xs, xh, xfa, xcl⟩ := x
                  simp only at x0 x1 x2 x3 HX
                  obtain ⟨S, hS2⟩ : ∃ S, (xs == sa) = S := ⟨_, rfl⟩
                  rw [hS2] at HX
                  obtain ⟨W5, hw5⟩ : ∃ W : World, W = wr := ⟨_, rfl⟩
                  subst hw5
                  clear hx hc hgl hne hm HA HF HALL HASC
                  go_wp2_with fail
                  refine reg_mix (Fr [] W5) [0, 1, 2, 3, 4, 5, 6, 7, 8, 9, 10, 11, 12, 13, 14, 15, 16, 17, 18, 19, 20, 21] (by kernel_rfl) (by kernel_rfl) (by kernel_rfl) rfl (Fr.drew _ _) ?_
                  have FC : Fr [] W5 W5.drew := Fr.drew _ _
                  generalize W5.drew = WC at FC ⊢
                  iterate 9 (refine mix_take1 (v := ?_) rfl rfl rfl rfl (fun w hS => ?_) ?_; rotate_left; (focus (have sx0 := hS.cel x0 (by simp); have sx1 := hS.cel x1 (by simp); have sx2 := hS.cel x2 (by simp); have sx3 := hS.cel x3 (by simp); have sb0 := hS.cel b0 (by simp); have sb1 := hS.cel b1 (by simp); have sb2 := hS.cel b2 (by simp); have sq0 := hS.cel q0 (by simp); have sq1 := hS.cel q1 (by simp); have sq2 := hS.cel q2 (by simp); have sq3 := hS.cel q3 (by simp); clear hS; go_simp; rfl)); simp only [List.setIfInBounds_toArray, List.set_cons_succ, List.set_cons_zero])
                  cases S
                  · iterate 2 (refine mix_take1 (v := ?_) rfl rfl rfl rfl (fun w hS => ?_) ?_; rotate_left; (focus (clear hS; go_simp; rfl)); simp only [List.setIfInBounds_toArray, List.set_cons_succ, List.set_cons_zero])
                    iterate 9 (refine mix_skipT rfl rfl rfl rfl rfl FC ?_; simp only [List.setIfInBounds_toArray, List.set_cons_succ, List.set_cons_zero])
                    iterate 2 (refine mix_take1 (v := ?_) rfl rfl rfl rfl (fun w hS => ?_) ?_; rotate_left; (focus (clear hS; go_simp; rfl)); simp only [List.setIfInBounds_toArray, List.set_cons_succ, List.set_cons_zero])
                    refine mix_end ?_
                    clear b0 b1 b2 q0 q1 q2 q3
                    clear x0 x1 x2 x3
                    go_wp2_with fail
                    go_ret
                    exact ⟨by rw [HX.out]; rfl, HF2.out.trans (F5.out.trans FC)⟩
                  · iterate 2 (refine mix_take1 (v := ?_) rfl rfl rfl rfl (fun w hS => ?_) ?_; rotate_left; (focus (clear hS; go_simp; rfl)); simp only [List.setIfInBounds_toArray, List.set_cons_succ, List.set_cons_zero])
                    iterate 9 (refine mix_takeg (v := ?_) rfl rfl rfl rfl rfl rfl (fun w hS => ?_) ?_; rotate_left; (focus (have sx0 := hS.cel x0 (by simp); have sx1 := hS.cel x1 (by simp); have sx2 := hS.cel x2 (by simp); have sx3 := hS.cel x3 (by simp); clear hS; go_simp; rfl)); simp only [List.setIfInBounds_toArray, List.set_cons_succ, List.set_cons_zero])
                    iterate 2 (refine mix_take1 (v := ?_) rfl rfl rfl rfl (fun w hS => ?_) ?_; rotate_left; (focus (clear hS; go_simp; rfl)); simp only [List.setIfInBounds_toArray, List.set_cons_succ, List.set_cons_zero])
                    refine mix_end ?_
                    clear b0 b1 b2 q0 q1 q2 q3
                    clear x0 x1 x2 x3
                    go_wp2_with fail
                    go_ret
                    exact ⟨by rw [HX.out]; rfl, HF2.out.trans (F5.out.trans FC)⟩

end Go.Proofs.YtfidioedjmjddaaGreat
