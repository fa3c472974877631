/-
  dialtoneref08: Uses.
-/
import Derived.Test.YtfidioedjmjddaaGreatQRg8
namespace Go.Proofs.YtfidioedjmjddaaGreat
open Go.RowKit Go.Lib

def useP (i : Nat) (x : Fd) : Bool := decide (x.fact = i)
def useQ (c : Rb) (q : Qn) (i : Nat) (x : Fd) : Bool := decide (x.cl = i) || (!x.holds && (decide ((c.cls.getD i default).gives = x.says) && rulesB c q i))
/-- What Uses of the reference returns. -/
def RUsed (c : Rb) (q : Qn) (l : List Fd) (w : World) (e : Ending) (w' : World) : Prop :=
  Fr [] w w' ∧ ((usesB c q l = false ∧ e = .returned (.tuple #[.slice none 0 0, .slice none 0 0, .int .i64 80])) ∨
    (usesB c q l = true ∧ ∃ v1 v2, e = .returned (.tuple #[v1, v2, .int .i64 0]) ∧ IntsAt w' v1 (pickN (fun i => l.any (useP i)) c.fas.length) ∧ IntsAt w' v2 (pickN (fun i => l.any (useQ c q i)) c.cls.length)))

set_option maxRecDepth 1000000 in
set_option maxHeartbeats 4000000 in
theorem ruses_c (vc vr vf vl : Value) (ys : List ClV) (c : Rb) (q : Qn) (l : List Fd) (w : World) (h : RbAt w vc vr vf ys c) (hl : Sl w vl l.length (l.flatMap fdC)) : Calls Tryz.prog 20 #[rbV vc vr vf, qnV q, vl] w (RUsed c q l w) := by
  obtain ⟨ac, pc, rfl⟩ := h.cls.sl.val
  obtain ⟨ar, pr, rfl⟩ := h.rps.val
  obtain ⟨af, pf, rfl⟩ := h.fas.val
  have hyl := h.cls.sl.len; have hrl := h.rps.len; have hfl := h.fas.len
  have hcl : c.cls.length = ys.length := by rw [h.eq, List.length_map]
  obtain ⟨th, sa, at_, kn⟩ := q
  have HR := Lib.hid h
  clear h
  obtain ⟨al, pl, rfl⟩ := hl.val
  have hll := hl.len
  have HL := Lib.hid hl
  clear hl
  have A2 := allocs_at [.cells #[.slice ac ys.length pc, .slice ar c.rps.length pr, .slice af c.fas.length pf] 30, .cells #[.int .i64 th, .int .i64 sa, .int .i64 at_, .int .i64 kn] 33] w
  have F2 := allocs_fr [.cells #[.slice ac ys.length pc, .slice ar c.rps.length pr, .slice af c.fas.length pf] 30, .cells #[.int .i64 th, .int .i64 sa, .int .i64 at_, .int .i64 kn] 33] w
  have HB : Hid (w.heap.size < w.heap.size + 1 ∧ ∀ W, Fr [] ((w.alloc (.cells #[.slice ac ys.length pc, .slice ar c.rps.length pr, .slice af c.fas.length pf] 30)).alloc (.cells #[.int .i64 th, .int .i64 sa, .int .i64 at_, .int .i64 kn] 33)) W → W.heap[w.heap.size]? = some (.cells #[.slice ac ys.length pc, .slice ar c.rps.length pr, .slice af c.fas.length pf] 30) ∧ W.heap[w.heap.size + 1]? = some (.cells #[.int .i64 th, .int .i64 sa, .int .i64 at_, .int .i64 kn] 33)) := Lib.hid ⟨by omega, fun W hf => ⟨hf.keep (A2 0 (by simp)) (by simp), hf.keep (A2 1 (by simp)) (by simp)⟩⟩
  have HF2 : Hid (Fr [] w ((w.alloc (.cells #[.slice ac ys.length pc, .slice ar c.rps.length pr, .slice af c.fas.length pf] 30)).alloc (.cells #[.int .i64 th, .int .i64 sa, .int .i64 at_, .int .i64 kn] 33))) := Lib.hid F2
  clear A2 F2
  have HB0 := HB
  have CT := Lib.hid fun (W : World) (hf : Fr [] w W) => rcheck_c _ _ _ _ ys c ⟨th, sa, at_, kn⟩ true l W (HR.out.same hf) (HL.out.same hf)
  have CF := Lib.hid fun (W : World) (hf : Fr [] w W) => rcheck_c _ _ _ _ ys c ⟨th, sa, at_, kn⟩ false l W (HR.out.same hf) (HL.out.same hf)
  have HUL : Hid (usesB c ⟨th, sa, at_, kn⟩ l = true → c.cls.length ≤ 20 ∧ c.rps.length ≤ 10 ∧ c.fas.length ≤ 20) := Lib.hid fun hu => by
    unfold usesB checkB okB at hu
    cases hv : validB c with
    | true => exact valid_lens hv
    | false => rw [hv] at hu; cases hu
  obtain ⟨T, hT⟩ : ∃ T, checkB c ⟨th, sa, at_, kn⟩ true l = T := ⟨_, rfl⟩
  obtain ⟨F, hF⟩ : ∃ F, checkB c ⟨th, sa, at_, kn⟩ false l = F := ⟨_, rfl⟩
  have HUV : Hid (usesB c ⟨th, sa, at_, kn⟩ l = (T || F)) := Lib.hid (by unfold usesB; rw [hT, hF])
  rw [hT] at CT
  rw [hF] at CF
  unfold rbV qnV at CT CF
  simp only at CT CF
  clear hT hF
  go_enter Tryz.func20, Tryz.ntmps20
  go_wp2_with fail
  refine (CT.out _ HF2.out).mono ?_
  rintro e w1 ⟨rfl, f1⟩
  have G1 := Lib.hid f1
  clear f1 CT
  cases T with
  | true =>
    have HU : Hid (usesB c ⟨th, sa, at_, kn⟩ l = true) := Lib.hid (by rw [HUV.out]; rfl)
    obtain ⟨hc20, hr10, hf20⟩ := HUL.out HU.out
    obtain ⟨W3, hw3⟩ : ∃ W : World, W = w1 := ⟨_, rfl⟩
    subst hw3
    have F3 := G1
    clear HUV HUL G1 CF
    go_wp2_with fail
    go_loopw [9, 10] (fun v i wr => ∃ (k : Nat) (o : List Int), k ≤ c.fas.length ∧ i = .int .i64 k ∧ o.length ≤ k ∧ Hid (o = pickN (fun i => l.any (useP i)) k) ∧ Hid (OI W3 v o wr)) (fun _ i _ => c.fas.length - (intOf i).toNat)
    case atStart => exact ⟨0, [], Nat.zero_le _, rfl, by simp, Lib.hid (by simp [pickN]), Lib.hid (OI.start W3)⟩
    case round =>
      obtain ⟨k, o, hk, rfl, hok, HO, H⟩ := hrel
      obtain ⟨ao, po, rfl⟩ := (sl_of_row H.out.row).val
      have bk := HB0.out.2 _ (F3.out.trans H.out.fr)
      have b2 := cell_of_blk bk.1 2
      clear bk
      by_cases hlt : k < c.fas.length
      · have hdn : decide ((k : Int) < (c.fas.length : Int)) = true := decide_eq_true (by omega)
        go_wp2_with fail
        clear b2
        go_loopw [11, 12] (fun bv i wi => ∃ (j : Nat) (bb : Bool), j ≤ l.length ∧ i = .int .i64 j ∧ bv = .bool bb ∧ Hid ((l.take j).any (useP k) = bb) ∧ Hid (Fr [] wr wi)) (fun _ i _ => l.length - (intOf i).toNat)
        case atStart => exact ⟨0, false, Nat.zero_le _, rfl, rfl, Lib.hid rfl, Lib.hid (Fr.refl _ _)⟩
        case round =>
          obtain ⟨j, bb, hj, rfl, rfl, HA, HFi⟩ := hrel
          rename World => wi
          by_cases hjl : j < l.length
          · 
            obtain ⟨b, off, ha, hc⟩ := (HL.out.same (HF2.out.trans ((F3.out.trans H.out.fr).trans HFi.out))).at_ (by omega)
            subst ha
            obtain ⟨x, hx⟩ : ∃ x, l[j] = x := ⟨_, rfl⟩
            have x0 := hc (j * 4 + 0) _ ((flat_get (enc := fdC) (k := 4) (fun _ => rfl) l j hjl 0 (by omega)).trans rfl)
            have x1 := hc (j * 4 + 1) _ ((flat_get (enc := fdC) (k := 4) (fun _ => rfl) l j hjl 1 (by omega)).trans rfl)
            have x2 := hc (j * 4 + 2) _ ((flat_get (enc := fdC) (k := 4) (fun _ => rfl) l j hjl 2 (by omega)).trans rfl)
            have x3 := hc (j * 4 + 3) _ ((flat_get (enc := fdC) (k := 4) (fun _ => rfl) l j hjl 3 (by omega)).trans rfl)
            rw [hx] at x0 x1 x2 x3
            simp only [Nat.add_zero, ← Nat.add_assoc] at x0 x1 x2 x3
            have HT := Lib.hid (any_take (useP k) l j hjl)
            rw [hx] at HT
            clear hx hc
            obtain ⟨xs, xh, xfa, xcl⟩ := x
            simp only at x0 x1 x2 x3
            cases bb with
            | true =>
              have HQ : Hid ((l.take (j + 1)).any (useP k) = true) := Lib.hid (by rw [HT.out, HA.out]; rfl)
              clear HT HA
              go_wp2_with fail
              clear x0 x1 x2 x3
              go_roundw
              case rel => exact ⟨j + 1, true, by omega, by go_num, rfl, HQ, HFi⟩
              case measure => simp [intOf]; omega
            | false =>
              obtain ⟨E, hE⟩ : ∃ E, (xfa == (k : Int)) = E := ⟨_, rfl⟩
              have HQ : Hid ((l.take (j + 1)).any (useP k) = E) := Lib.hid (by rw [HT.out, HA.out, ← hE]; rfl)
              clear HT HA
              go_wp2_with fail
              clear x0 x1 x2 x3
              clear hE
              go_roundw
              case rel => exact ⟨j + 1, E, by omega, by go_num, rfl, HQ, HFi⟩
              case measure => simp [intOf]; omega
          · obtain rfl : j = l.length := by omega
            rw [List.take_length] at HA
            have HB : Hid ((fun i => l.any (useP i)) k = bb) := HA
            have HD := Lib.hid (H.out.same HFi.out)
            clear HA
            cases bb with
            | true =>
              go_wp2_with (first | ((with_reducible refine wpList_of_wp (o := ⟨some 56, _, _, _, _, _⟩) rfl (fun K hK => ?_)); refine wp_push_int (.tmp 53) (.tmp 55) rfl _ o (k : Int) HD.out rfl rfl (by omega) ?_; intro ga cap W1 H1'; have H1 := Lib.hid H1'; clear H1'; refine hK _ _ ?_; clear hK))
              exact ⟨⟨k + 1, o ++ [(k : Int)], by omega, by go_num, by simp; omega, Lib.hid (by rw [HO.out]; exact (pickN_pos HB.out).symm), H1⟩, by simp [intOf]; omega⟩
            | false =>
              go_wp2_with fail
              exact ⟨⟨k + 1, o, by omega, by go_num, by omega, Lib.hid (by rw [HO.out]; exact (pickN_neg HB.out).symm), HD⟩, by simp [intOf]; omega⟩
      · obtain rfl : k = c.fas.length := by omega
        have HO4 := HO
        have H4 := H
        have F4 := Lib.hid (F3.out.trans H.out.fr)
        obtain ⟨W4, hw4⟩ : ∃ W : World, W = wr := ⟨_, rfl⟩
        subst hw4
        clear HO H
        go_wp2_with fail
        clear b2
        go_loopw [13, 14] (fun v i wr => ∃ (k : Nat) (o2 : List Int), k ≤ ys.length ∧ i = .int .i64 k ∧ o2.length ≤ k ∧ Hid (o2 = pickN (fun i => l.any (useQ c ⟨th, sa, at_, kn⟩ i)) k) ∧ Hid (OI W4 v o2 wr)) (fun _ i _ => ys.length - (intOf i).toNat)
        case atStart => exact ⟨0, [], Nat.zero_le _, rfl, by simp, Lib.hid (by simp [pickN]), Lib.hid (OI.start W4)⟩
        case round =>
          obtain ⟨k, o2, hk, rfl, hok, HO, H⟩ := hrel
          obtain ⟨a2_, p2_, rfl⟩ := (sl_of_row H.out.row).val
          have bk := HB0.out.2 _ (F4.out.trans H.out.fr)
          have b0 := cell_of_blk bk.1 0
          clear bk
          by_cases hlt : k < ys.length
          · have hdn : decide ((k : Int) < (ys.length : Int)) = true := decide_eq_true (by omega)
            obtain ⟨xb, xo, xcap, hv, hcl_⟩ := clRow_cells (HR.out.same (HF2.out.trans (F4.out.trans H.out.fr))).cls.sl k hlt
            cases hv
            have y5 := hcl_ 5 _ rfl
            have HYX : Hid ((c.cls.getD k default).gives = ys[k].x.gives) := Lib.hid (by simp [HR.out.eq, hlt])
            obtain ⟨xg, hxg⟩ : ∃ z, ys[k].x.gives = z := ⟨_, rfl⟩
            rw [hxg] at y5 HYX
            have HGV := HYX
            have HG4 : Hid (∀ W, Fr [] wr W → W.cell? ⟨xb, xo + k * 6 + 5, none⟩ = some (.int .i64 xg)) := Lib.hid fun W hf => hf.cel y5 (by simp)
            clear hcl_ y5 hxg HYX
            go_wp2_with fail
            clear b0
            go_loopw [15, 16] (fun bv i wi => ∃ (j : Nat) (bb : Bool), j ≤ l.length ∧ i = .int .i64 j ∧ bv = .bool bb ∧ Hid ((l.take j).any (useQ c ⟨th, sa, at_, kn⟩ k) = bb) ∧ Hid (Fr [] wr wi)) (fun _ i _ => l.length - (intOf i).toNat)
            case atStart => exact ⟨0, false, Nat.zero_le _, rfl, rfl, Lib.hid rfl, Lib.hid (Fr.refl _ _)⟩
            case round =>
              obtain ⟨j, bb, hj, rfl, rfl, HA, HFi⟩ := hrel
              rename World => wi
              by_cases hjl : j < l.length
              · 
                obtain ⟨b, off, ha, hc⟩ := (HL.out.same (HF2.out.trans ((F4.out.trans H.out.fr).trans HFi.out))).at_ (by omega)
                subst ha
                obtain ⟨x, hx⟩ : ∃ x, l[j] = x := ⟨_, rfl⟩
                have x0 := hc (j * 4 + 0) _ ((flat_get (enc := fdC) (k := 4) (fun _ => rfl) l j hjl 0 (by omega)).trans rfl)
                have x1 := hc (j * 4 + 1) _ ((flat_get (enc := fdC) (k := 4) (fun _ => rfl) l j hjl 1 (by omega)).trans rfl)
                have x2 := hc (j * 4 + 2) _ ((flat_get (enc := fdC) (k := 4) (fun _ => rfl) l j hjl 2 (by omega)).trans rfl)
                have x3 := hc (j * 4 + 3) _ ((flat_get (enc := fdC) (k := 4) (fun _ => rfl) l j hjl 3 (by omega)).trans rfl)
                rw [hx] at x0 x1 x2 x3
                simp only [Nat.add_zero, ← Nat.add_assoc] at x0 x1 x2 x3
                have HT := Lib.hid (any_take (useQ c ⟨th, sa, at_, kn⟩ k) l j hjl)
                rw [hx] at HT
                clear hx hc
                obtain ⟨xs, xh, xfa, xcl⟩ := x
                simp only at x0 x1 x2 x3
                have bk := HB0.out.2 _ ((F4.out.trans H.out.fr).trans HFi.out)
                have b0 := cell_of_blk bk.1 0; have b1 := cell_of_blk bk.1 1; have b2 := cell_of_blk bk.1 2
                have q0 := cell_of_blk bk.2 0; have q1 := cell_of_blk bk.2 1; have q2 := cell_of_blk bk.2 2; have q3 := cell_of_blk bk.2 3
                clear bk
                have g4 := HG4.out _ HFi.out
                have CL := Lib.hid fun (W : World) (hf : Fr [] wi W) => rclause_c _ _ _ ys c ⟨th, sa, at_, kn⟩ k W (HR.out.same (HF2.out.trans (((F4.out.trans H.out.fr).trans HFi.out).trans hf))) hlt
                obtain ⟨M, hM⟩ : ∃ M, rulesB c ⟨th, sa, at_, kn⟩ k = M := ⟨_, rfl⟩
                rw [hM] at CL
                have HM := Lib.hid hM
                unfold rbV qnV at CL
                simp only at CL
                clear hM
                cases bb with
                | true =>
                  go_wp2_with fail
                  refine reg_mix (Fr [] wi) [0, 1, 2, 3, 4, 5, 6, 7, 8, 9, 10, 11, 12, 13, 14, 15, 16, 17, 18, 19, 20, 21, 22, 23, 24, 25, 26, 27, 28, 29, 30, 31, 32, 33, 34, 35, 36, 37, 38] (by kernel_rfl) (by kernel_rfl) (by kernel_rfl) rfl (Fr.drew _ _) ?_
                  have FC : Fr [] wi wi.drew := Fr.drew _ _
                  generalize wi.drew = WC at FC ⊢
                  iterate 2 (refine mix_take1 (v := ?_) rfl rfl rfl rfl (fun w hS => ?_) ?_; rotate_left; (focus (clear hS; go_simp; rfl)); simp only [List.setIfInBounds_toArray, List.set_cons_succ, List.set_cons_zero])
                  iterate 7 (refine mix_skipF rfl rfl rfl rfl rfl FC ?_; simp only [List.setIfInBounds_toArray, List.set_cons_succ, List.set_cons_zero])
                  iterate 2 (refine mix_take1 (v := ?_) rfl rfl rfl rfl (fun w hS => ?_) ?_; rotate_left; (focus (clear hS; go_simp; rfl)); simp only [List.setIfInBounds_toArray, List.set_cons_succ, List.set_cons_zero])
                  iterate 7 (refine mix_skipF rfl rfl rfl rfl rfl FC ?_; simp only [List.setIfInBounds_toArray, List.set_cons_succ, List.set_cons_zero])
                  iterate 12 (refine mix_skipU rfl rfl rfl rfl rfl FC ?_; simp only [List.setIfInBounds_toArray, List.set_cons_succ, List.set_cons_zero])
                  iterate 2 (refine mix_skipF rfl rfl rfl rfl rfl FC ?_; simp only [List.setIfInBounds_toArray, List.set_cons_succ, List.set_cons_zero])
                  iterate 4 (refine mix_skipU rfl rfl rfl rfl rfl FC ?_; simp only [List.setIfInBounds_toArray, List.set_cons_succ, List.set_cons_zero])
                  (refine mix_skipF rfl rfl rfl rfl rfl FC ?_; simp only [List.setIfInBounds_toArray, List.set_cons_succ, List.set_cons_zero])
                  iterate 2 (refine mix_take1 (v := ?_) rfl rfl rfl rfl (fun w hS => ?_) ?_; rotate_left; (focus (clear hS; go_simp; rfl)); simp only [List.setIfInBounds_toArray, List.set_cons_succ, List.set_cons_zero])
                  refine mix_end ?_
                  clear x0 x1 x2 x3
                  have HQ : Hid ((l.take (j + 1)).any (useQ c ⟨th, sa, at_, kn⟩ k) = true) := Lib.hid (by rw [HT.out, HA.out]; unfold useQ; simp only; rfl)
                  have HFn := Lib.hid (HFi.out.trans FC)
                  clear HT HA FC HFi CL
                  clear b0 b1 b2 q0 q1 q2 q3
                  clear g4
                  go_wp2_with fail
                  go_roundw
                  case rel => exact ⟨j + 1, true, by omega, by go_num, rfl, HQ, HFn⟩
                  case measure => simp [intOf]; omega
                | false =>
                  obtain ⟨E, hE⟩ : ∃ E, (xcl == (k : Int)) = E := ⟨_, rfl⟩
                  obtain ⟨G, hG⟩ : ∃ G, (xg == xs) = G := ⟨_, rfl⟩
                  go_wp2_with fail
                  refine reg_mix (Fr [] wi) [0, 1, 2, 3, 4, 5, 6, 7, 8, 9, 10, 11, 12, 13, 14, 15, 16, 17, 18, 19, 20, 21, 22, 23, 24, 25, 26, 27, 28, 29, 30, 31, 32, 33, 34, 35, 36, 37, 38] (by kernel_rfl) (by kernel_rfl) (by kernel_rfl) rfl (Fr.drew _ _) ?_
                  have FC : Fr [] wi wi.drew := Fr.drew _ _
                  generalize wi.drew = WC at FC ⊢
                  iterate 2 (refine mix_take1 (v := ?_) rfl rfl rfl rfl (fun w hS => ?_) ?_; rotate_left; (focus (clear hS; go_simp; rfl)); simp only [List.setIfInBounds_toArray, List.set_cons_succ, List.set_cons_zero])
                  iterate 7 (refine mix_takeg (v := ?_) rfl rfl rfl rfl rfl rfl (fun w hS => ?_) ?_; rotate_left; (focus (have sx0 := hS.cel x0 (by simp); have sx1 := hS.cel x1 (by simp); have sx2 := hS.cel x2 (by simp); have sx3 := hS.cel x3 (by simp); have sg4 := hS.cel g4 (by simp); clear hS; go_simp; rfl)); simp only [List.setIfInBounds_toArray, List.set_cons_succ, List.set_cons_zero])
                  cases E
                  · iterate 2 (refine mix_take1 (v := ?_) rfl rfl rfl rfl (fun w hS => ?_) ?_; rotate_left; (focus (clear hS; go_simp; rfl)); simp only [List.setIfInBounds_toArray, List.set_cons_succ, List.set_cons_zero])
                    iterate 5 (refine mix_takeg (v := ?_) rfl rfl rfl rfl rfl rfl (fun w hS => ?_) ?_; rotate_left; (focus (have sx0 := hS.cel x0 (by simp); have sx1 := hS.cel x1 (by simp); have sx2 := hS.cel x2 (by simp); have sx3 := hS.cel x3 (by simp); have sg4 := hS.cel g4 (by simp); clear hS; go_simp; rfl)); simp only [List.setIfInBounds_toArray, List.set_cons_succ, List.set_cons_zero])
                    cases xh
                    · iterate 2 (refine mix_takeg (v := ?_) rfl rfl rfl rfl rfl rfl (fun w hS => ?_) ?_; rotate_left; (focus (clear hS; go_simp; rfl)); simp only [List.setIfInBounds_toArray, List.set_cons_succ, List.set_cons_zero])
                      iterate 12 (refine mix_takeg (v := ?_) rfl rfl rfl rfl rfl rfl (fun w hS => ?_) ?_; rotate_left; (focus (have sx0 := hS.cel x0 (by simp); have sx1 := hS.cel x1 (by simp); have sx2 := hS.cel x2 (by simp); have sx3 := hS.cel x3 (by simp); have sg4 := hS.cel g4 (by simp); have sb0 := hS.cel b0 (by simp); have sb1 := hS.cel b1 (by simp); have sb2 := hS.cel b2 (by simp); have sq0 := hS.cel q0 (by simp); have sq1 := hS.cel q1 (by simp); have sq2 := hS.cel q2 (by simp); have sq3 := hS.cel q3 (by simp); clear hS; go_simp; rfl)); simp only [List.setIfInBounds_toArray, List.set_cons_succ, List.set_cons_zero])
                      iterate 2 (refine mix_takeg (v := ?_) rfl rfl rfl rfl rfl rfl (fun w hS => ?_) ?_; rotate_left; (focus (clear hS; go_simp; rfl)); simp only [List.setIfInBounds_toArray, List.set_cons_succ, List.set_cons_zero])
                      cases G
                      · iterate 4 (refine mix_skipT rfl rfl rfl rfl rfl FC ?_; simp only [List.setIfInBounds_toArray, List.set_cons_succ, List.set_cons_zero])
                        (refine mix_takeg (v := ?_) rfl rfl rfl rfl rfl rfl (fun w hS => ?_) ?_; rotate_left; (focus (clear hS; go_simp; rfl)); simp only [List.setIfInBounds_toArray, List.set_cons_succ, List.set_cons_zero])
                        iterate 2 (refine mix_take1 (v := ?_) rfl rfl rfl rfl (fun w hS => ?_) ?_; rotate_left; (focus (clear hS; go_simp; rfl)); simp only [List.setIfInBounds_toArray, List.set_cons_succ, List.set_cons_zero])
                        refine mix_end ?_
                        clear x0 x1 x2 x3
                        have HQ : Hid ((l.take (j + 1)).any (useQ c ⟨th, sa, at_, kn⟩ k) = false) := Lib.hid (by rw [HT.out, HA.out]; unfold useQ; simp only; have hEd : decide (xcl = (k : Int)) = _ := hE; rw [hEd]; have hGd : decide ((c.cls.getD k default).gives = xs) = _ := (congrArg (fun z => decide (z = xs)) HGV.out).trans hG; rw [hGd]; rfl)
                        have HFn := Lib.hid (HFi.out.trans FC)
                        clear HT HA FC HFi CL
                        clear b0 b1 b2 q0 q1 q2 q3
                        clear g4
                        go_wp2_with fail
                        go_roundw
                        case rel => exact ⟨j + 1, false, by omega, by go_num, rfl, HQ, HFn⟩
                        case measure => simp [intOf]; omega
                      · iterate 3 (refine mix_takeg (v := ?_) rfl rfl rfl rfl rfl rfl (fun w hS => ?_) ?_; rotate_left; (focus (have sb0 := hS.cel b0 (by simp); have sb1 := hS.cel b1 (by simp); have sb2 := hS.cel b2 (by simp); have sq0 := hS.cel q0 (by simp); have sq1 := hS.cel q1 (by simp); have sq2 := hS.cel q2 (by simp); have sq3 := hS.cel q3 (by simp); clear hS; go_simp; rfl)); simp only [List.setIfInBounds_toArray, List.set_cons_succ, List.set_cons_zero])
                        refine mix_dog rfl rfl rfl rfl rfl (fun K hK => ?_)
                        go_simp
                        refine (CL.out _ FC).mono ?_
                        rintro e wq ⟨rfl, fq⟩
                        have FC := FC.trans fq
                        clear fq
                        refine hK _ _ FC ?_
                        clear hK K
                        try simp only [Act.put, List.setIfInBounds_toArray, List.set_cons_succ, List.set_cons_zero]
                        (refine mix_takeg (v := ?_) rfl rfl rfl rfl rfl rfl (fun w hS => ?_) ?_; rotate_left; (focus (clear hS; go_simp; rfl)); simp only [List.setIfInBounds_toArray, List.set_cons_succ, List.set_cons_zero])
                        iterate 2 (refine mix_take1 (v := ?_) rfl rfl rfl rfl (fun w hS => ?_) ?_; rotate_left; (focus (clear hS; go_simp; rfl)); simp only [List.setIfInBounds_toArray, List.set_cons_succ, List.set_cons_zero])
                        refine mix_end ?_
                        clear x0 x1 x2 x3
                        have HQ : Hid ((l.take (j + 1)).any (useQ c ⟨th, sa, at_, kn⟩ k) = M) := Lib.hid (by rw [HT.out, HA.out]; unfold useQ; simp only; have hEd : decide (xcl = (k : Int)) = _ := hE; rw [hEd]; have hGd : decide ((c.cls.getD k default).gives = xs) = _ := (congrArg (fun z => decide (z = xs)) HGV.out).trans hG; rw [hGd]; rw [HM.out]; cases M <;> rfl)
                        have HFn := Lib.hid (HFi.out.trans FC)
                        clear HT HA FC HFi CL
                        clear b0 b1 b2 q0 q1 q2 q3
                        clear g4
                        go_wp2_with fail
                        go_roundw
                        case rel => exact ⟨j + 1, M, by omega, by go_num, rfl, HQ, HFn⟩
                        case measure => simp [intOf]; omega
                    · iterate 2 (refine mix_takeg (v := ?_) rfl rfl rfl rfl rfl rfl (fun w hS => ?_) ?_; rotate_left; (focus (clear hS; go_simp; rfl)); simp only [List.setIfInBounds_toArray, List.set_cons_succ, List.set_cons_zero])
                      iterate 12 (refine mix_skipT rfl rfl rfl rfl rfl FC ?_; simp only [List.setIfInBounds_toArray, List.set_cons_succ, List.set_cons_zero])
                      iterate 2 (refine mix_takeg (v := ?_) rfl rfl rfl rfl rfl rfl (fun w hS => ?_) ?_; rotate_left; (focus (clear hS; go_simp; rfl)); simp only [List.setIfInBounds_toArray, List.set_cons_succ, List.set_cons_zero])
                      iterate 4 (refine mix_skipT rfl rfl rfl rfl rfl FC ?_; simp only [List.setIfInBounds_toArray, List.set_cons_succ, List.set_cons_zero])
                      (refine mix_takeg (v := ?_) rfl rfl rfl rfl rfl rfl (fun w hS => ?_) ?_; rotate_left; (focus (clear hS; go_simp; rfl)); simp only [List.setIfInBounds_toArray, List.set_cons_succ, List.set_cons_zero])
                      iterate 2 (refine mix_take1 (v := ?_) rfl rfl rfl rfl (fun w hS => ?_) ?_; rotate_left; (focus (clear hS; go_simp; rfl)); simp only [List.setIfInBounds_toArray, List.set_cons_succ, List.set_cons_zero])
                      refine mix_end ?_
                      clear x0 x1 x2 x3
                      have HQ : Hid ((l.take (j + 1)).any (useQ c ⟨th, sa, at_, kn⟩ k) = false) := Lib.hid (by rw [HT.out, HA.out]; unfold useQ; simp only; have hEd : decide (xcl = (k : Int)) = _ := hE; rw [hEd]; rfl)
                      have HFn := Lib.hid (HFi.out.trans FC)
                      clear HT HA FC HFi CL
                      clear b0 b1 b2 q0 q1 q2 q3
                      clear g4
                      go_wp2_with fail
                      go_roundw
                      case rel => exact ⟨j + 1, false, by omega, by go_num, rfl, HQ, HFn⟩
                      case measure => simp [intOf]; omega
                  · iterate 2 (refine mix_take1 (v := ?_) rfl rfl rfl rfl (fun w hS => ?_) ?_; rotate_left; (focus (clear hS; go_simp; rfl)); simp only [List.setIfInBounds_toArray, List.set_cons_succ, List.set_cons_zero])
                    iterate 7 (refine mix_skipF rfl rfl rfl rfl rfl FC ?_; simp only [List.setIfInBounds_toArray, List.set_cons_succ, List.set_cons_zero])
                    iterate 12 (refine mix_skipU rfl rfl rfl rfl rfl FC ?_; simp only [List.setIfInBounds_toArray, List.set_cons_succ, List.set_cons_zero])
                    iterate 2 (refine mix_skipF rfl rfl rfl rfl rfl FC ?_; simp only [List.setIfInBounds_toArray, List.set_cons_succ, List.set_cons_zero])
                    iterate 4 (refine mix_skipU rfl rfl rfl rfl rfl FC ?_; simp only [List.setIfInBounds_toArray, List.set_cons_succ, List.set_cons_zero])
                    (refine mix_skipF rfl rfl rfl rfl rfl FC ?_; simp only [List.setIfInBounds_toArray, List.set_cons_succ, List.set_cons_zero])
                    iterate 2 (refine mix_take1 (v := ?_) rfl rfl rfl rfl (fun w hS => ?_) ?_; rotate_left; (focus (clear hS; go_simp; rfl)); simp only [List.setIfInBounds_toArray, List.set_cons_succ, List.set_cons_zero])
                    refine mix_end ?_
                    clear x0 x1 x2 x3
                    have HQ : Hid ((l.take (j + 1)).any (useQ c ⟨th, sa, at_, kn⟩ k) = true) := Lib.hid (by rw [HT.out, HA.out]; unfold useQ; simp only; have hEd : decide (xcl = (k : Int)) = _ := hE; rw [hEd]; rfl)
                    have HFn := Lib.hid (HFi.out.trans FC)
                    clear HT HA FC HFi CL
                    clear b0 b1 b2 q0 q1 q2 q3
                    clear g4
                    go_wp2_with fail
                    go_roundw
                    case rel => exact ⟨j + 1, true, by omega, by go_num, rfl, HQ, HFn⟩
                    case measure => simp [intOf]; omega
              · obtain rfl : j = l.length := by omega
                rw [List.take_length] at HA
                have HB : Hid ((fun i => l.any (useQ c ⟨th, sa, at_, kn⟩ i)) k = bb) := HA
                have HD := Lib.hid (H.out.same HFi.out)
                clear HA
                cases bb with
                | true =>
                  go_wp2_with (first | ((with_reducible refine wpList_of_wp (o := ⟨some 112, _, _, _, _, _⟩) rfl (fun K hK => ?_)); refine wp_push_int (.tmp 109) (.tmp 111) rfl _ o2 (k : Int) HD.out rfl rfl (by omega) ?_; intro ga cap W1 H1'; have H1 := Lib.hid H1'; clear H1'; refine hK _ _ ?_; clear hK))
                  exact ⟨⟨k + 1, o2 ++ [(k : Int)], by omega, by go_num, by simp; omega, Lib.hid (by rw [HO.out]; exact (pickN_pos HB.out).symm), H1⟩, by simp [intOf]; omega⟩
                | false =>
                  go_wp2_with fail
                  exact ⟨⟨k + 1, o2, by omega, by go_num, by omega, Lib.hid (by rw [HO.out]; exact (pickN_neg HB.out).symm), HD⟩, by simp [intOf]; omega⟩
          · obtain rfl : k = ys.length := by omega
            go_wp2_with fail
            go_ret3
            refine ⟨HF2.out.trans (F4.out.trans H.out.fr), .inr ⟨HU.out, .slice ao o.length po, .slice a2_ o2.length p2_, rfl, ?_, ?_⟩⟩
            · have := sl_of_row (H4.out.same H.out.fr).row
              rw [← HO4.out]
              exact this
            · have := sl_of_row H.out.row
              have e : pickN (fun i => l.any (useQ c ⟨th, sa, at_, kn⟩ i)) c.cls.length = o2 := by rw [HO.out, ← hcl]
              rw [e]
              exact this
  | false =>
    have bk := HB.out.2 _ G1.out
    have b0 := cell_of_blk bk.1 0; have b1 := cell_of_blk bk.1 1; have b2 := cell_of_blk bk.1 2
    have q0 := cell_of_blk bk.2 0; have q1 := cell_of_blk bk.2 1; have q2 := cell_of_blk bk.2 2; have q3 := cell_of_blk bk.2 3
    clear bk
    go_wp2_with fail
    clear b0 b1 b2 q0 q1 q2 q3
    refine (CF.out _ (HF2.out.trans G1.out)).mono ?_
    rintro e W3 ⟨rfl, f2⟩
    have F3 := Lib.hid (G1.out.trans f2)
    clear f2 CF
    cases F with
    | false =>
      go_wp2_with fail
      go_ret3
      exact ⟨HF2.out.trans F3.out, .inl ⟨by rw [HUV.out]; rfl, rfl⟩⟩
    | true =>
      have HU : Hid (usesB c ⟨th, sa, at_, kn⟩ l = true) := Lib.hid (by rw [HUV.out]; rfl)
      obtain ⟨hc20, hr10, hf20⟩ := HUL.out HU.out
      clear HUV HUL G1
      go_wp2_with fail
      go_loopw [9, 10] (fun v i wr => ∃ (k : Nat) (o : List Int), k ≤ c.fas.length ∧ i = .int .i64 k ∧ o.length ≤ k ∧ Hid (o = pickN (fun i => l.any (useP i)) k) ∧ Hid (OI W3 v o wr)) (fun _ i _ => c.fas.length - (intOf i).toNat)
      case atStart => exact ⟨0, [], Nat.zero_le _, rfl, by simp, Lib.hid (by simp [pickN]), Lib.hid (OI.start W3)⟩
      case round =>
        obtain ⟨k, o, hk, rfl, hok, HO, H⟩ := hrel
        obtain ⟨ao, po, rfl⟩ := (sl_of_row H.out.row).val
        have bk := HB0.out.2 _ (F3.out.trans H.out.fr)
        have b2 := cell_of_blk bk.1 2
        clear bk
        by_cases hlt : k < c.fas.length
        · have hdn : decide ((k : Int) < (c.fas.length : Int)) = true := decide_eq_true (by omega)
          go_wp2_with fail
          clear b2
          go_loopw [11, 12] (fun bv i wi => ∃ (j : Nat) (bb : Bool), j ≤ l.length ∧ i = .int .i64 j ∧ bv = .bool bb ∧ Hid ((l.take j).any (useP k) = bb) ∧ Hid (Fr [] wr wi)) (fun _ i _ => l.length - (intOf i).toNat)
          case atStart => exact ⟨0, false, Nat.zero_le _, rfl, rfl, Lib.hid rfl, Lib.hid (Fr.refl _ _)⟩
          case round =>
            obtain ⟨j, bb, hj, rfl, rfl, HA, HFi⟩ := hrel
            rename World => wi
            by_cases hjl : j < l.length
            · 
              obtain ⟨b, off, ha, hc⟩ := (HL.out.same (HF2.out.trans ((F3.out.trans H.out.fr).trans HFi.out))).at_ (by omega)
              subst ha
              obtain ⟨x, hx⟩ : ∃ x, l[j] = x := ⟨_, rfl⟩
              have x0 := hc (j * 4 + 0) _ ((flat_get (enc := fdC) (k := 4) (fun _ => rfl) l j hjl 0 (by omega)).trans rfl)
              have x1 := hc (j * 4 + 1) _ ((flat_get (enc := fdC) (k := 4) (fun _ => rfl) l j hjl 1 (by omega)).trans rfl)
              have x2 := hc (j * 4 + 2) _ ((flat_get (enc := fdC) (k := 4) (fun _ => rfl) l j hjl 2 (by omega)).trans rfl)
              have x3 := hc (j * 4 + 3) _ ((flat_get (enc := fdC) (k := 4) (fun _ => rfl) l j hjl 3 (by omega)).trans rfl)
              rw [hx] at x0 x1 x2 x3
              simp only [Nat.add_zero, ← Nat.add_assoc] at x0 x1 x2 x3
              have HT := Lib.hid (any_take (useP k) l j hjl)
              rw [hx] at HT
              clear hx hc
              obtain ⟨xs, xh, xfa, xcl⟩ := x
              simp only at x0 x1 x2 x3
              cases bb with
              | true =>
                have HQ : Hid ((l.take (j + 1)).any (useP k) = true) := Lib.hid (by rw [HT.out, HA.out]; rfl)
                clear HT HA
                go_wp2_with fail
                clear x0 x1 x2 x3
                go_roundw
                case rel => exact ⟨j + 1, true, by omega, by go_num, rfl, HQ, HFi⟩
                case measure => simp [intOf]; omega
              | false =>
                obtain ⟨E, hE⟩ : ∃ E, (xfa == (k : Int)) = E := ⟨_, rfl⟩
                have HQ : Hid ((l.take (j + 1)).any (useP k) = E) := Lib.hid (by rw [HT.out, HA.out, ← hE]; rfl)
                clear HT HA
                go_wp2_with fail
                clear x0 x1 x2 x3
                clear hE
                go_roundw
                case rel => exact ⟨j + 1, E, by omega, by go_num, rfl, HQ, HFi⟩
                case measure => simp [intOf]; omega
            · obtain rfl : j = l.length := by omega
              rw [List.take_length] at HA
              have HB : Hid ((fun i => l.any (useP i)) k = bb) := HA
              have HD := Lib.hid (H.out.same HFi.out)
              clear HA
              cases bb with
              | true =>
                go_wp2_with (first | ((with_reducible refine wpList_of_wp (o := ⟨some 56, _, _, _, _, _⟩) rfl (fun K hK => ?_)); refine wp_push_int (.tmp 53) (.tmp 55) rfl _ o (k : Int) HD.out rfl rfl (by omega) ?_; intro ga cap W1 H1'; have H1 := Lib.hid H1'; clear H1'; refine hK _ _ ?_; clear hK))
                exact ⟨⟨k + 1, o ++ [(k : Int)], by omega, by go_num, by simp; omega, Lib.hid (by rw [HO.out]; exact (pickN_pos HB.out).symm), H1⟩, by simp [intOf]; omega⟩
              | false =>
                go_wp2_with fail
                exact ⟨⟨k + 1, o, by omega, by go_num, by omega, Lib.hid (by rw [HO.out]; exact (pickN_neg HB.out).symm), HD⟩, by simp [intOf]; omega⟩
        · obtain rfl : k = c.fas.length := by omega
          have HO4 := HO
          have H4 := H
          have F4 := Lib.hid (F3.out.trans H.out.fr)
          obtain ⟨W4, hw4⟩ : ∃ W : World, W = wr := ⟨_, rfl⟩
          subst hw4
          clear HO H
          go_wp2_with fail
          clear b2
          go_loopw [13, 14] (fun v i wr => ∃ (k : Nat) (o2 : List Int), k ≤ ys.length ∧ i = .int .i64 k ∧ o2.length ≤ k ∧ Hid (o2 = pickN (fun i => l.any (useQ c ⟨th, sa, at_, kn⟩ i)) k) ∧ Hid (OI W4 v o2 wr)) (fun _ i _ => ys.length - (intOf i).toNat)
          case atStart => exact ⟨0, [], Nat.zero_le _, rfl, by simp, Lib.hid (by simp [pickN]), Lib.hid (OI.start W4)⟩
          case round =>
            obtain ⟨k, o2, hk, rfl, hok, HO, H⟩ := hrel
            obtain ⟨a2_, p2_, rfl⟩ := (sl_of_row H.out.row).val
            have bk := HB0.out.2 _ (F4.out.trans H.out.fr)
            have b0 := cell_of_blk bk.1 0
            clear bk
            by_cases hlt : k < ys.length
            · have hdn : decide ((k : Int) < (ys.length : Int)) = true := decide_eq_true (by omega)
              obtain ⟨xb, xo, xcap, hv, hcl_⟩ := clRow_cells (HR.out.same (HF2.out.trans (F4.out.trans H.out.fr))).cls.sl k hlt
              cases hv
              have y5 := hcl_ 5 _ rfl
              have HYX : Hid ((c.cls.getD k default).gives = ys[k].x.gives) := Lib.hid (by simp [HR.out.eq, hlt])
              obtain ⟨xg, hxg⟩ : ∃ z, ys[k].x.gives = z := ⟨_, rfl⟩
              rw [hxg] at y5 HYX
              have HGV := HYX
              have HG4 : Hid (∀ W, Fr [] wr W → W.cell? ⟨xb, xo + k * 6 + 5, none⟩ = some (.int .i64 xg)) := Lib.hid fun W hf => hf.cel y5 (by simp)
              clear hcl_ y5 hxg HYX
              go_wp2_with fail
              clear b0
              go_loopw [15, 16] (fun bv i wi => ∃ (j : Nat) (bb : Bool), j ≤ l.length ∧ i = .int .i64 j ∧ bv = .bool bb ∧ Hid ((l.take j).any (useQ c ⟨th, sa, at_, kn⟩ k) = bb) ∧ Hid (Fr [] wr wi)) (fun _ i _ => l.length - (intOf i).toNat)
              case atStart => exact ⟨0, false, Nat.zero_le _, rfl, rfl, Lib.hid rfl, Lib.hid (Fr.refl _ _)⟩
              case round =>
                obtain ⟨j, bb, hj, rfl, rfl, HA, HFi⟩ := hrel
                rename World => wi
                by_cases hjl : j < l.length
                · 
                  obtain ⟨b, off, ha, hc⟩ := (HL.out.same (HF2.out.trans ((F4.out.trans H.out.fr).trans HFi.out))).at_ (by omega)
                  subst ha
                  obtain ⟨x, hx⟩ : ∃ x, l[j] = x := ⟨_, rfl⟩
                  have x0 := hc (j * 4 + 0) _ ((flat_get (enc := fdC) (k := 4) (fun _ => rfl) l j hjl 0 (by omega)).trans rfl)
                  have x1 := hc (j * 4 + 1) _ ((flat_get (enc := fdC) (k := 4) (fun _ => rfl) l j hjl 1 (by omega)).trans rfl)
                  have x2 := hc (j * 4 + 2) _ ((flat_get (enc := fdC) (k := 4) (fun _ => rfl) l j hjl 2 (by omega)).trans rfl)
                  have x3 := hc (j * 4 + 3) _ ((flat_get (enc := fdC) (k := 4) (fun _ => rfl) l j hjl 3 (by omega)).trans rfl)
                  rw [hx] at x0 x1 x2 x3
                  simp only [Nat.add_zero, ← Nat.add_assoc] at x0 x1 x2 x3
                  have HT := Lib.hid (any_take (useQ c ⟨th, sa, at_, kn⟩ k) l j hjl)
                  rw [hx] at HT
                  clear hx hc
                  obtain ⟨xs, xh, xfa, xcl⟩ := x
                  simp only at x0 x1 x2 x3
                  have bk := HB0.out.2 _ ((F4.out.trans H.out.fr).trans HFi.out)
                  have b0 := cell_of_blk bk.1 0; have b1 := cell_of_blk bk.1 1; have b2 := cell_of_blk bk.1 2
                  have q0 := cell_of_blk bk.2 0; have q1 := cell_of_blk bk.2 1; have q2 := cell_of_blk bk.2 2; have q3 := cell_of_blk bk.2 3
                  clear bk
                  have g4 := HG4.out _ HFi.out
                  have CL := Lib.hid fun (W : World) (hf : Fr [] wi W) => rclause_c _ _ _ ys c ⟨th, sa, at_, kn⟩ k W (HR.out.same (HF2.out.trans (((F4.out.trans H.out.fr).trans HFi.out).trans hf))) hlt
                  obtain ⟨M, hM⟩ : ∃ M, rulesB c ⟨th, sa, at_, kn⟩ k = M := ⟨_, rfl⟩
                  rw [hM] at CL
                  have HM := Lib.hid hM
                  unfold rbV qnV at CL
                  simp only at CL
                  clear hM
                  cases bb with
                  | true =>
                    go_wp2_with fail
                    refine reg_mix (Fr [] wi) [0, 1, 2, 3, 4, 5, 6, 7, 8, 9, 10, 11, 12, 13, 14, 15, 16, 17, 18, 19, 20, 21, 22, 23, 24, 25, 26, 27, 28, 29, 30, 31, 32, 33, 34, 35, 36, 37, 38] (by kernel_rfl) (by kernel_rfl) (by kernel_rfl) rfl (Fr.drew _ _) ?_
                    have FC : Fr [] wi wi.drew := Fr.drew _ _
                    generalize wi.drew = WC at FC ⊢
                    iterate 2 (refine mix_take1 (v := ?_) rfl rfl rfl rfl (fun w hS => ?_) ?_; rotate_left; (focus (clear hS; go_simp; rfl)); simp only [List.setIfInBounds_toArray, List.set_cons_succ, List.set_cons_zero])
                    iterate 7 (refine mix_skipF rfl rfl rfl rfl rfl FC ?_; simp only [List.setIfInBounds_toArray, List.set_cons_succ, List.set_cons_zero])
                    iterate 2 (refine mix_take1 (v := ?_) rfl rfl rfl rfl (fun w hS => ?_) ?_; rotate_left; (focus (clear hS; go_simp; rfl)); simp only [List.setIfInBounds_toArray, List.set_cons_succ, List.set_cons_zero])
                    iterate 7 (refine mix_skipF rfl rfl rfl rfl rfl FC ?_; simp only [List.setIfInBounds_toArray, List.set_cons_succ, List.set_cons_zero])
                    iterate 12 (refine mix_skipU rfl rfl rfl rfl rfl FC ?_; simp only [List.setIfInBounds_toArray, List.set_cons_succ, List.set_cons_zero])
                    iterate 2 (refine mix_skipF rfl rfl rfl rfl rfl FC ?_; simp only [List.setIfInBounds_toArray, List.set_cons_succ, List.set_cons_zero])
                    iterate 4 (refine mix_skipU rfl rfl rfl rfl rfl FC ?_; simp only [List.setIfInBounds_toArray, List.set_cons_succ, List.set_cons_zero])
                    (refine mix_skipF rfl rfl rfl rfl rfl FC ?_; simp only [List.setIfInBounds_toArray, List.set_cons_succ, List.set_cons_zero])
                    iterate 2 (refine mix_take1 (v := ?_) rfl rfl rfl rfl (fun w hS => ?_) ?_; rotate_left; (focus (clear hS; go_simp; rfl)); simp only [List.setIfInBounds_toArray, List.set_cons_succ, List.set_cons_zero])
                    refine mix_end ?_
                    clear x0 x1 x2 x3
                    have HQ : Hid ((l.take (j + 1)).any (useQ c ⟨th, sa, at_, kn⟩ k) = true) := Lib.hid (by rw [HT.out, HA.out]; unfold useQ; simp only; rfl)
                    have HFn := Lib.hid (HFi.out.trans FC)
                    clear HT HA FC HFi CL
                    clear b0 b1 b2 q0 q1 q2 q3
                    clear g4
                    go_wp2_with fail
                    go_roundw
                    case rel => exact ⟨j + 1, true, by omega, by go_num, rfl, HQ, HFn⟩
                    case measure => simp [intOf]; omega
                  | false =>
                    obtain ⟨E, hE⟩ : ∃ E, (xcl == (k : Int)) = E := ⟨_, rfl⟩
                    obtain ⟨G, hG⟩ : ∃ G, (xg == xs) = G := ⟨_, rfl⟩
                    go_wp2_with fail
                    refine reg_mix (Fr [] wi) [0, 1, 2, 3, 4, 5, 6, 7, 8, 9, 10, 11, 12, 13, 14, 15, 16, 17, 18, 19, 20, 21, 22, 23, 24, 25, 26, 27, 28, 29, 30, 31, 32, 33, 34, 35, 36, 37, 38] (by kernel_rfl) (by kernel_rfl) (by kernel_rfl) rfl (Fr.drew _ _) ?_
                    have FC : Fr [] wi wi.drew := Fr.drew _ _
                    generalize wi.drew = WC at FC ⊢
                    iterate 2 (refine mix_take1 (v := ?_) rfl rfl rfl rfl (fun w hS => ?_) ?_; rotate_left; (focus (clear hS; go_simp; rfl)); simp only [List.setIfInBounds_toArray, List.set_cons_succ, List.set_cons_zero])
                    iterate 7 (refine mix_takeg (v := ?_) rfl rfl rfl rfl rfl rfl (fun w hS => ?_) ?_; rotate_left; (focus (have sx0 := hS.cel x0 (by simp); have sx1 := hS.cel x1 (by simp); have sx2 := hS.cel x2 (by simp); have sx3 := hS.cel x3 (by simp); have sg4 := hS.cel g4 (by simp); clear hS; go_simp; rfl)); simp only [List.setIfInBounds_toArray, List.set_cons_succ, List.set_cons_zero])
                    cases E
                    · iterate 2 (refine mix_take1 (v := ?_) rfl rfl rfl rfl (fun w hS => ?_) ?_; rotate_left; (focus (clear hS; go_simp; rfl)); simp only [List.setIfInBounds_toArray, List.set_cons_succ, List.set_cons_zero])
                      iterate 5 (refine mix_takeg (v := ?_) rfl rfl rfl rfl rfl rfl (fun w hS => ?_) ?_; rotate_left; (focus (have sx0 := hS.cel x0 (by simp); have sx1 := hS.cel x1 (by simp); have sx2 := hS.cel x2 (by simp); have sx3 := hS.cel x3 (by simp); have sg4 := hS.cel g4 (by simp); clear hS; go_simp; rfl)); simp only [List.setIfInBounds_toArray, List.set_cons_succ, List.set_cons_zero])
                      cases xh
                      · iterate 2 (refine mix_takeg (v := ?_) rfl rfl rfl rfl rfl rfl (fun w hS => ?_) ?_; rotate_left; (focus (clear hS; go_simp; rfl)); simp only [List.setIfInBounds_toArray, List.set_cons_succ, List.set_cons_zero])
                        iterate 12 (refine mix_takeg (v := ?_) rfl rfl rfl rfl rfl rfl (fun w hS => ?_) ?_; rotate_left; (focus (have sx0 := hS.cel x0 (by simp); have sx1 := hS.cel x1 (by simp); have sx2 := hS.cel x2 (by simp); have sx3 := hS.cel x3 (by simp); have sg4 := hS.cel g4 (by simp); have sb0 := hS.cel b0 (by simp); have sb1 := hS.cel b1 (by simp); have sb2 := hS.cel b2 (by simp); have sq0 := hS.cel q0 (by simp); have sq1 := hS.cel q1 (by simp); have sq2 := hS.cel q2 (by simp); have sq3 := hS.cel q3 (by simp); clear hS; go_simp; rfl)); simp only [List.setIfInBounds_toArray, List.set_cons_succ, List.set_cons_zero])
                        iterate 2 (refine mix_takeg (v := ?_) rfl rfl rfl rfl rfl rfl (fun w hS => ?_) ?_; rotate_left; (focus (clear hS; go_simp; rfl)); simp only [List.setIfInBounds_toArray, List.set_cons_succ, List.set_cons_zero])
                        cases G
                        · iterate 4 (refine mix_skipT rfl rfl rfl rfl rfl FC ?_; simp only [List.setIfInBounds_toArray, List.set_cons_succ, List.set_cons_zero])
                          (refine mix_takeg (v := ?_) rfl rfl rfl rfl rfl rfl (fun w hS => ?_) ?_; rotate_left; (focus (clear hS; go_simp; rfl)); simp only [List.setIfInBounds_toArray, List.set_cons_succ, List.set_cons_zero])
                          iterate 2 (refine mix_take1 (v := ?_) rfl rfl rfl rfl (fun w hS => ?_) ?_; rotate_left; (focus (clear hS; go_simp; rfl)); simp only [List.setIfInBounds_toArray, List.set_cons_succ, List.set_cons_zero])
                          refine mix_end ?_
                          clear x0 x1 x2 x3
                          have HQ : Hid ((l.take (j + 1)).any (useQ c ⟨th, sa, at_, kn⟩ k) = false) := Lib.hid (by rw [HT.out, HA.out]; unfold useQ; simp only; have hEd : decide (xcl = (k : Int)) = _ := hE; rw [hEd]; have hGd : decide ((c.cls.getD k default).gives = xs) = _ := (congrArg (fun z => decide (z = xs)) HGV.out).trans hG; rw [hGd]; rfl)
                          have HFn := Lib.hid (HFi.out.trans FC)
                          clear HT HA FC HFi CL
                          clear b0 b1 b2 q0 q1 q2 q3
                          clear g4
                          go_wp2_with fail
                          go_roundw
                          case rel => exact ⟨j + 1, false, by omega, by go_num, rfl, HQ, HFn⟩
                          case measure => simp [intOf]; omega
                        · iterate 3 (refine mix_takeg (v := ?_) rfl rfl rfl rfl rfl rfl (fun w hS => ?_) ?_; rotate_left; (focus (have sb0 := hS.cel b0 (by simp); have sb1 := hS.cel b1 (by simp); have sb2 := hS.cel b2 (by simp); have sq0 := hS.cel q0 (by simp); have sq1 := hS.cel q1 (by simp); have sq2 := hS.cel q2 (by simp); have sq3 := hS.cel q3 (by simp); clear hS; go_simp; rfl)); simp only [List.setIfInBounds_toArray, List.set_cons_succ, List.set_cons_zero])
                          refine mix_dog rfl rfl rfl rfl rfl (fun K hK => ?_)
                          go_simp
                          refine (CL.out _ FC).mono ?_
                          rintro e wq ⟨rfl, fq⟩
                          have FC := FC.trans fq
                          clear fq
                          refine hK _ _ FC ?_
                          clear hK K
                          try simp only [Act.put, List.setIfInBounds_toArray, List.set_cons_succ, List.set_cons_zero]
                          (refine mix_takeg (v := ?_) rfl rfl rfl rfl rfl rfl (fun w hS => ?_) ?_; rotate_left; (focus (clear hS; go_simp; rfl)); simp only [List.setIfInBounds_toArray, List.set_cons_succ, List.set_cons_zero])
                          iterate 2 (refine mix_take1 (v := ?_) rfl rfl rfl rfl (fun w hS => ?_) ?_; rotate_left; (focus (clear hS; go_simp; rfl)); simp only [List.setIfInBounds_toArray, List.set_cons_succ, List.set_cons_zero])
                          refine mix_end ?_
                          clear x0 x1 x2 x3
                          have HQ : Hid ((l.take (j + 1)).any (useQ c ⟨th, sa, at_, kn⟩ k) = M) := Lib.hid (by rw [HT.out, HA.out]; unfold useQ; simp only; have hEd : decide (xcl = (k : Int)) = _ := hE; rw [hEd]; have hGd : decide ((c.cls.getD k default).gives = xs) = _ := (congrArg (fun z => decide (z = xs)) HGV.out).trans hG; rw [hGd]; rw [HM.out]; cases M <;> rfl)
                          have HFn := Lib.hid (HFi.out.trans FC)
                          clear HT HA FC HFi CL
                          clear b0 b1 b2 q0 q1 q2 q3
                          clear g4
                          go_wp2_with fail
                          go_roundw
                          case rel => exact ⟨j + 1, M, by omega, by go_num, rfl, HQ, HFn⟩
                          case measure => simp [intOf]; omega
                      · iterate 2 (refine mix_takeg (v := ?_) rfl rfl rfl rfl rfl rfl (fun w hS => ?_) ?_; rotate_left; (focus (clear hS; go_simp; rfl)); simp only [List.setIfInBounds_toArray, List.set_cons_succ, List.set_cons_zero])
                        iterate 12 (refine mix_skipT rfl rfl rfl rfl rfl FC ?_; simp only [List.setIfInBounds_toArray, List.set_cons_succ, List.set_cons_zero])
                        iterate 2 (refine mix_takeg (v := ?_) rfl rfl rfl rfl rfl rfl (fun w hS => ?_) ?_; rotate_left; (focus (clear hS; go_simp; rfl)); simp only [List.setIfInBounds_toArray, List.set_cons_succ, List.set_cons_zero])
                        iterate 4 (refine mix_skipT rfl rfl rfl rfl rfl FC ?_; simp only [List.setIfInBounds_toArray, List.set_cons_succ, List.set_cons_zero])
                        (refine mix_takeg (v := ?_) rfl rfl rfl rfl rfl rfl (fun w hS => ?_) ?_; rotate_left; (focus (clear hS; go_simp; rfl)); simp only [List.setIfInBounds_toArray, List.set_cons_succ, List.set_cons_zero])
                        iterate 2 (refine mix_take1 (v := ?_) rfl rfl rfl rfl (fun w hS => ?_) ?_; rotate_left; (focus (clear hS; go_simp; rfl)); simp only [List.setIfInBounds_toArray, List.set_cons_succ, List.set_cons_zero])
                        refine mix_end ?_
                        clear x0 x1 x2 x3
                        have HQ : Hid ((l.take (j + 1)).any (useQ c ⟨th, sa, at_, kn⟩ k) = false) := Lib.hid (by rw [HT.out, HA.out]; unfold useQ; simp only; have hEd : decide (xcl = (k : Int)) = _ := hE; rw [hEd]; rfl)
                        have HFn := Lib.hid (HFi.out.trans FC)
                        clear HT HA FC HFi CL
                        clear b0 b1 b2 q0 q1 q2 q3
                        clear g4
                        go_wp2_with fail
                        go_roundw
                        case rel => exact ⟨j + 1, false, by omega, by go_num, rfl, HQ, HFn⟩
                        case measure => simp [intOf]; omega
                    · iterate 2 (refine mix_take1 (v := ?_) rfl rfl rfl rfl (fun w hS => ?_) ?_; rotate_left; (focus (clear hS; go_simp; rfl)); simp only [List.setIfInBounds_toArray, List.set_cons_succ, List.set_cons_zero])
                      iterate 7 (refine mix_skipF rfl rfl rfl rfl rfl FC ?_; simp only [List.setIfInBounds_toArray, List.set_cons_succ, List.set_cons_zero])
                      iterate 12 (refine mix_skipU rfl rfl rfl rfl rfl FC ?_; simp only [List.setIfInBounds_toArray, List.set_cons_succ, List.set_cons_zero])
                      iterate 2 (refine mix_skipF rfl rfl rfl rfl rfl FC ?_; simp only [List.setIfInBounds_toArray, List.set_cons_succ, List.set_cons_zero])
                      iterate 4 (refine mix_skipU rfl rfl rfl rfl rfl FC ?_; simp only [List.setIfInBounds_toArray, List.set_cons_succ, List.set_cons_zero])
                      (refine mix_skipF rfl rfl rfl rfl rfl FC ?_; simp only [List.setIfInBounds_toArray, List.set_cons_succ, List.set_cons_zero])
                      iterate 2 (refine mix_take1 (v := ?_) rfl rfl rfl rfl (fun w hS => ?_) ?_; rotate_left; (focus (clear hS; go_simp; rfl)); simp only [List.setIfInBounds_toArray, List.set_cons_succ, List.set_cons_zero])
                      refine mix_end ?_
                      clear x0 x1 x2 x3
                      have HQ : Hid ((l.take (j + 1)).any (useQ c ⟨th, sa, at_, kn⟩ k) = true) := Lib.hid (by rw [HT.out, HA.out]; unfold useQ; simp only; have hEd : decide (xcl = (k : Int)) = _ := hE; rw [hEd]; rfl)
                      have HFn := Lib.hid (HFi.out.trans FC)
                      clear HT HA FC HFi CL
                      clear b0 b1 b2 q0 q1 q2 q3
                      clear g4
                      go_wp2_with fail
                      go_roundw
                      case rel => exact ⟨j + 1, true, by omega, by go_num, rfl, HQ, HFn⟩
                      case measure => simp [intOf]; omega
                · obtain rfl : j = l.length := by omega
                  rw [List.take_length] at HA
                  have HB : Hid ((fun i => l.any (useQ c ⟨th, sa, at_, kn⟩ i)) k = bb) := HA
                  have HD := Lib.hid (H.out.same HFi.out)
                  clear HA
                  cases bb with
                  | true =>
                    go_wp2_with (first | ((with_reducible refine wpList_of_wp (o := ⟨some 112, _, _, _, _, _⟩) rfl (fun K hK => ?_)); refine wp_push_int (.tmp 109) (.tmp 111) rfl _ o2 (k : Int) HD.out rfl rfl (by omega) ?_; intro ga cap W1 H1'; have H1 := Lib.hid H1'; clear H1'; refine hK _ _ ?_; clear hK))
                    exact ⟨⟨k + 1, o2 ++ [(k : Int)], by omega, by go_num, by simp; omega, Lib.hid (by rw [HO.out]; exact (pickN_pos HB.out).symm), H1⟩, by simp [intOf]; omega⟩
                  | false =>
                    go_wp2_with fail
                    exact ⟨⟨k + 1, o2, by omega, by go_num, by omega, Lib.hid (by rw [HO.out]; exact (pickN_neg HB.out).symm), HD⟩, by simp [intOf]; omega⟩
            · obtain rfl : k = ys.length := by omega
              go_wp2_with fail
              go_ret3
              refine ⟨HF2.out.trans (F4.out.trans H.out.fr), .inr ⟨HU.out, .slice ao o.length po, .slice a2_ o2.length p2_, rfl, ?_, ?_⟩⟩
              · have := sl_of_row (H4.out.same H.out.fr).row
                rw [← HO4.out]
                exact this
              · have := sl_of_row H.out.row
                have e : pickN (fun i => l.any (useQ c ⟨th, sa, at_, kn⟩ i)) c.cls.length = o2 := by rw [HO.out, ← hcl]
                rw [e]
                exact this

end Go.Proofs.YtfidioedjmjddaaGreat
