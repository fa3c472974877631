/-
  dialtoneref08: Applies.
-/
import Derived.Test.YtfidioedjmjddaaGreatQRg4
import Derived.Test.YtfidioedjmjddaaGreatQL8
namespace Go.Proofs.YtfidioedjmjddaaGreat
open Go.RowKit Go.Lib

/-- A row of integers that the call has made. -/
structure OI (w : World) (v : Value) (o : List Int) (wr : World) : Prop where
  fr : Fr [] w wr
  row : wr.ownsRow 0 3 1 v o.length (intC o)
  new : ∀ g, v.ownBlock = some g → w.heap.size ≤ g
theorem OI.start (w : World) : OI w (.slice none 0 0) [] w := ⟨Fr.refl _ _, ⟨rfl, .inl ⟨rfl, rfl⟩⟩, fun g hg => by cases hg⟩
theorem OI.same {w wr W : World} {v : Value} {o : List Int} (h : OI w v o wr) (hf : Fr [] wr W) : OI w v o W := ⟨h.fr.trans hf, row_fr h.row hf (by simp), h.new⟩
theorem wp_push_int {w wr : World} {o : Oper} {a : Act} {K : Act → World → Prop} {Q : Exit → Act → World → Prop} (s x : Operand) (ho : o.op = .call { callee := .builtin .append, args := #[s, x], argTypes := #[48, 48] }) (v : Value) (l : List Int) (X : Int) (H : OI w v l wr)
    (hs : a.eval s = v) (hx : a.eval x = .slice (some ⟨wr.heap.size, 0, none⟩) 1 1) (hl : l.length ≤ 1000000) (h : ∀ ga cap W', OI w (.slice ga (l.length + 1) cap) (l ++ [X]) W' → K (a.put o.dst (.slice ga (l.length + 1) cap)) W') : o.wp Tryz.prog a (wr.alloc (.cells #[.int .i64 X] 3)) K Q := by
  refine wp_append_src s x 48 3 (.int .i64 0) 1 8 ho Tryz.underlying48 infoI8 rfl (by decide) v l.length (intC l) hs (H.same (Fr.alloc _ _ _)).row _ 1 [.int .i64 X] hx (srcAt_one wr (.int .i64 X) 3) rfl (by simp [Value.oneCell']) (by omega) (by omega) ?_
  intro ga cap W1 r1 f1 b1
  refine h ga cap W1 ⟨(H.fr.trans (Fr.alloc _ _ _)).step f1 (fun i hi => .inr (H.new i (by simpa using hi))), ?_, ?_⟩
  · have e : intC (l ++ [X]) = intC l ++ [.int .i64 X] := by simp [intC]
    rw [e, List.length_append]
    exact r1
  · exact new_ge b1 (by have := H.fr.size; simp; omega) H.new

/-- What Applies of the reference returns. -/
def RApplied (c : Rb) (q : Qn) (w : World) (e : Ending) (w' : World) : Prop :=
  Fr [] w w' ∧ ((okB c q = false ∧ e = .returned (.tuple #[.slice none 0 0, .slice none 0 0, .int .i64 80])) ∨
    (okB c q = true ∧ ∃ v1 v2, e = .returned (.tuple #[v1, v2, .int .i64 0]) ∧ IntsAt w' v1 (factsOf c q) ∧ IntsAt w' v2 (clausesOf c q)))

set_option maxRecDepth 1000000 in
set_option maxHeartbeats 4000000 in
theorem rapplies_c (vc vr vf : Value) (ys : List ClV) (c : Rb) (q : Qn) (w : World) (h : RbAt w vc vr vf ys c) : Calls Tryz.prog 14 #[rbV vc vr vf, qnV q] w (RApplied c q w) := by
  obtain ⟨ac, pc, rfl⟩ := h.cls.sl.val
  obtain ⟨ar, pr, rfl⟩ := h.rps.val
  obtain ⟨af, pf, rfl⟩ := h.fas.val
  have hyl := h.cls.sl.len; have hrl := h.rps.len; have hfl := h.fas.len
  have hcl : c.cls.length = ys.length := by rw [h.eq, List.length_map]
  obtain ⟨th, sa, at_, kn⟩ := q
  have HR := Lib.hid h
  clear h
  have A2 := allocs_at [.cells #[.slice ac ys.length pc, .slice ar c.rps.length pr, .slice af c.fas.length pf] 30, .cells #[.int .i64 th, .int .i64 sa, .int .i64 at_, .int .i64 kn] 33] w
  have F2 := allocs_fr [.cells #[.slice ac ys.length pc, .slice ar c.rps.length pr, .slice af c.fas.length pf] 30, .cells #[.int .i64 th, .int .i64 sa, .int .i64 at_, .int .i64 kn] 33] w
  have HB : Hid (w.heap.size < w.heap.size + 1 ∧ ∀ W, Fr [] ((w.alloc (.cells #[.slice ac ys.length pc, .slice ar c.rps.length pr, .slice af c.fas.length pf] 30)).alloc (.cells #[.int .i64 th, .int .i64 sa, .int .i64 at_, .int .i64 kn] 33)) W → W.heap[w.heap.size]? = some (.cells #[.slice ac ys.length pc, .slice ar c.rps.length pr, .slice af c.fas.length pf] 30) ∧ W.heap[w.heap.size + 1]? = some (.cells #[.int .i64 th, .int .i64 sa, .int .i64 at_, .int .i64 kn] 33)) := Lib.hid ⟨by omega, fun W hf => ⟨hf.keep (A2 0 (by simp)) (by simp), hf.keep (A2 1 (by simp)) (by simp)⟩⟩
  have HF2 : Hid (Fr [] w ((w.alloc (.cells #[.slice ac ys.length pc, .slice ar c.rps.length pr, .slice af c.fas.length pf] 30)).alloc (.cells #[.int .i64 th, .int .i64 sa, .int .i64 at_, .int .i64 kn] 33))) := Lib.hid F2
  clear A2 F2
  go_enter Tryz.func14, Tryz.ntmps14
  go_wp2_with fail
  refine (rvalid_c _ _ _ ys c _ (HR.out.same HF2.out)).mono ?_
  rintro e w1 ⟨rfl, f1⟩
  have G1 := Lib.hid f1
  clear f1
  cases hv : validB c with
  | false =>
    have HX : Hid (okB c ⟨th, sa, at_, kn⟩ = false) := Lib.hid (by unfold okB; rw [hv]; rfl)
    clear hv
    go_wp2_with fail
    go_ret3
    exact ⟨HF2.out.trans G1.out, .inl ⟨HX.out, rfl⟩⟩
  | true =>
    have HV := Lib.hid hv
    obtain ⟨hc20, hr10, hf20⟩ := valid_lens hv
    clear hv
    have bk := HB.out.2 _ G1.out
    have b0 := cell_of_blk bk.1 0; have b1 := cell_of_blk bk.1 1; have b2 := cell_of_blk bk.1 2
    have q0 := cell_of_blk bk.2 0; have q1 := cell_of_blk bk.2 1; have q2 := cell_of_blk bk.2 2; have q3 := cell_of_blk bk.2 3
    clear bk
    go_wp2_with fail
    clear b0 b1 b2 q0 q1 q2 q3
    refine (rasks_c ⟨th, sa, at_, kn⟩ _).mono ?_
    rintro e W3 ⟨rfl, f2⟩
    have F3 := Lib.hid (G1.out.trans f2)
    clear f2
    cases hq : asksB ⟨th, sa, at_, kn⟩ with
    | false =>
      have HX : Hid (okB c ⟨th, sa, at_, kn⟩ = false) := Lib.hid (by unfold okB; rw [HV.out, hq]; rfl)
      clear hq
      go_wp2_with fail
      go_ret3
      exact ⟨HF2.out.trans F3.out, .inl ⟨HX.out, rfl⟩⟩
    | true =>
      have HOK : Hid (okB c ⟨th, sa, at_, kn⟩ = true) := Lib.hid (by unfold okB; rw [HV.out, hq]; rfl)
      clear hq HV G1
      go_wp2_with fail
      go_loopw [7, 8] (fun v i wr => ∃ (k : Nat) (o : List Int), k ≤ c.fas.length ∧ i = .int .i64 k ∧ o.length ≤ k ∧ Hid (o = pickN (fun i => statesB (c.fas.getD i default) ⟨th, sa, at_, kn⟩) k) ∧ Hid (OI W3 v o wr)) (fun _ i _ => c.fas.length - (intOf i).toNat)
      case atStart => exact ⟨0, [], Nat.zero_le _, rfl, by simp, Lib.hid (by simp [pickN]), Lib.hid (OI.start W3)⟩
      case round =>
        obtain ⟨k, o, hk, rfl, hok, HO, H⟩ := hrel
        obtain ⟨ao, po, rfl⟩ := (sl_of_row H.out.row).val
        have bk := HB.out.2 _ (F3.out.trans H.out.fr)
        have b0 := cell_of_blk bk.1 0; have b1 := cell_of_blk bk.1 1; have b2 := cell_of_blk bk.1 2
        have q0 := cell_of_blk bk.2 0; have q1 := cell_of_blk bk.2 1; have q2 := cell_of_blk bk.2 2; have q3 := cell_of_blk bk.2 3
        clear bk
        by_cases hlt : k < c.fas.length
        · obtain ⟨xb, xo, xcap, hv, hcl_⟩ := faRow_cells' (HR.out.same (HF2.out.trans (F3.out.trans H.out.fr))).fas k hlt
          cases hv
          have x0 := hcl_ 0 _ rfl; have x1 := hcl_ 1 _ rfl; have x2 := hcl_ 2 _ rfl; have x3 := hcl_ 3 _ rfl; have x4 := hcl_ 4 _ rfl; have x5 := hcl_ 5 _ rfl
          simp only [Nat.add_zero] at x0 x1 x2 x3 x4 x5
          have HG : Hid ((fun i => statesB (c.fas.getD i default) ⟨th, sa, at_, kn⟩) k = statesB c.fas[k] ⟨th, sa, at_, kn⟩) := Lib.hid (by simp [hlt])
          generalize c.fas[k] = x at *
          obtain ⟨M, hM⟩ : ∃ M, statesB x ⟨th, sa, at_, kn⟩ = M := ⟨_, rfl⟩
          have CF := Lib.hid fun (W : World) => rfact_c x ⟨th, sa, at_, kn⟩ W
          rw [hM] at CF HG
          have HM := Lib.hid HG.out
          obtain ⟨xt, xs, xf, xe, xkf, xkt⟩ := x
          unfold faV qnV at CF
          simp only at x0 x1 x2 x3 x4 x5 CF
          clear hM HG hcl_
          go_wp2_with fail
          refine reg_mix (Fr [] wr) [0, 1, 2, 3, 4, 5, 6] (by kernel_rfl) (by kernel_rfl) (by kernel_rfl) rfl (Fr.drew _ _) ?_
          have FC : Fr [] wr wr.drew := Fr.drew _ _
          generalize wr.drew = WC at FC ⊢
          iterate 6 (refine mix_take1 (v := ?_) rfl rfl rfl rfl (fun w hS => ?_) ?_; rotate_left; (focus (have s0 := hS.cel b0 (by simp); have s1 := hS.cel b1 (by simp); have s2 := hS.cel b2 (by simp); have s3 := hS.cel q0 (by simp); have s4 := hS.cel q1 (by simp); have s5 := hS.cel q2 (by simp); have s6 := hS.cel q3 (by simp); have s7 := hS.cel x0 (by simp); have s8 := hS.cel x1 (by simp); have s9 := hS.cel x2 (by simp); have s10 := hS.cel x3 (by simp); have s11 := hS.cel x4 (by simp); have s12 := hS.cel x5 (by simp); clear hS; go_simp; rfl)); simp only [List.setIfInBounds_toArray, List.set_cons_succ, List.set_cons_zero])
          refine mix_do rfl rfl rfl (fun K hK => ?_)
          go_simp
          refine (CF.out _).mono ?_
          rintro e wq ⟨rfl, fq⟩
          have FC := FC.trans fq
          clear fq
          refine hK _ _ FC ?_
          clear hK K
          try simp only [Act.put, List.setIfInBounds_toArray, List.set_cons_succ, List.set_cons_zero]
          refine mix_end ?_
          clear b0 b1 b2 q0 q1 q2 q3
          clear x0 x1 x2 x3 x4 x5 CF
          have HD := Lib.hid (H.out.same FC)
          clear H FC
          cases M with
          | true =>
            go_wp2_with (first | ((with_reducible refine wpList_of_wp (o := ⟨some 36, _, _, _, _, _⟩) rfl (fun K hK => ?_)); refine wp_push_int (.tmp 33) (.tmp 35) rfl _ o (k : Int) HD.out rfl rfl (by omega) ?_; intro ga cap W1 H1'; have H1 := Lib.hid H1'; clear H1'; refine hK _ _ ?_; clear hK))
            go_roundw
            case rel => exact ⟨k + 1, o ++ [(k : Int)], by omega, by go_num, by simp; omega, Lib.hid (by rw [HO.out]; exact (pickN_pos HM.out).symm), H1⟩
            case measure => simp [intOf]; omega
          | false =>
            go_wp2_with fail
            go_roundw
            case rel => exact ⟨k + 1, o, by omega, by go_num, by omega, Lib.hid (by rw [HO.out]; exact (pickN_neg HM.out).symm), HD⟩
            case measure => simp [intOf]; omega
        · obtain rfl : k = c.fas.length := by omega
          have HO4 : Hid (o = factsOf c ⟨th, sa, at_, kn⟩) := Lib.hid HO.out
          have H4 := H
          have F4 := Lib.hid (F3.out.trans H.out.fr)
          obtain ⟨W4, hw4⟩ : ∃ W : World, W = wr := ⟨_, rfl⟩
          subst hw4
          clear HO H
          go_wp2_with fail
          clear b0 b1 b2 q0 q1 q2 q3
          go_loopw [9, 10] (fun v i wr => ∃ (k : Nat) (o2 : List Int), k ≤ ys.length ∧ i = .int .i64 k ∧ o2.length ≤ k ∧ Hid (o2 = pickN (rulesB c ⟨th, sa, at_, kn⟩) k) ∧ Hid (OI W4 v o2 wr)) (fun _ i _ => ys.length - (intOf i).toNat)
          case atStart => exact ⟨0, [], Nat.zero_le _, rfl, by simp, Lib.hid (by simp [pickN]), Lib.hid (OI.start W4)⟩
          case round =>
            obtain ⟨k, o2, hk, rfl, hok, HO, H⟩ := hrel
            obtain ⟨a2_, p2_, rfl⟩ := (sl_of_row H.out.row).val
            have bk := HB.out.2 _ (F4.out.trans H.out.fr)
            have b0 := cell_of_blk bk.1 0; have b1 := cell_of_blk bk.1 1; have b2 := cell_of_blk bk.1 2
            have q0 := cell_of_blk bk.2 0; have q1 := cell_of_blk bk.2 1; have q2 := cell_of_blk bk.2 2; have q3 := cell_of_blk bk.2 3
            clear bk
            by_cases hlt : k < ys.length
            · obtain ⟨M, hM⟩ : ∃ M, rulesB c ⟨th, sa, at_, kn⟩ k = M := ⟨_, rfl⟩
              have CL := Lib.hid fun (W : World) (hf : Fr [] wr W) => rclause_c _ _ _ ys c ⟨th, sa, at_, kn⟩ k W (HR.out.same (HF2.out.trans ((F4.out.trans H.out.fr).trans hf))) hlt
              rw [hM] at CL
              have HM := Lib.hid hM
              clear hM
              unfold rbV qnV at CL
              simp only at CL
              go_wp2_with fail
              refine (CL.out _ (Fr.refl _ _)).mono ?_
              rintro e wq ⟨rfl, FC⟩
              clear b0 b1 b2 q0 q1 q2 q3
              clear CL
              have HD := Lib.hid (H.out.same FC)
              clear H FC
              cases M with
              | true =>
                go_wp2_with (first | ((with_reducible refine wpList_of_wp (o := ⟨some 51, _, _, _, _, _⟩) rfl (fun K hK => ?_)); refine wp_push_int (.tmp 48) (.tmp 50) rfl _ o2 (k : Int) HD.out rfl rfl (by omega) ?_; intro ga cap W1 H1'; have H1 := Lib.hid H1'; clear H1'; refine hK _ _ ?_; clear hK))
                go_roundw
                case rel => exact ⟨k + 1, o2 ++ [(k : Int)], by omega, by go_num, by simp; omega, Lib.hid (by rw [HO.out]; exact (pickN_pos HM.out).symm), H1⟩
                case measure => simp [intOf]; omega
              | false =>
                go_wp2_with fail
                go_roundw
                case rel => exact ⟨k + 1, o2, by omega, by go_num, by omega, Lib.hid (by rw [HO.out]; exact (pickN_neg HM.out).symm), HD⟩
                case measure => simp [intOf]; omega
            · obtain rfl : k = ys.length := by omega
              go_wp2_with fail
              go_ret3
              refine ⟨HF2.out.trans (F4.out.trans H.out.fr), .inr ⟨HOK.out, .slice ao o.length po, .slice a2_ o2.length p2_, rfl, ?_, ?_⟩⟩
              · have := sl_of_row (H4.out.same H.out.fr).row
                rw [← HO4.out]
                exact this
              · have := sl_of_row H.out.row
                have e : clausesOf c ⟨th, sa, at_, kn⟩ = o2 := by rw [HO.out, ← hcl]; rfl
                rw [e]
                exact this

end Go.Proofs.YtfidioedjmjddaaGreat
