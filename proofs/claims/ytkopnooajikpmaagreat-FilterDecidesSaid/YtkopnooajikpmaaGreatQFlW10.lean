/-
  filter: Decide, walked.
-/
import Derived.Test.YtkopnooajikpmaaGreatQFM
namespace Go.Proofs.YtkopnooajikpmaaGreat
open Go.RowKit Go.Lib

theorem decGo_at {b : Rb} {c : Ca} {dfl : Int} {l : List Ru} {i : Nat} {F : List Int} {P : List (List Fd)} {D : Dn} (hi : i < l.length) (h : D = decGo b c dfl i F P (l.drop i)) :
    (matchI b c l[i].cds < 0 → D = ⟨l[i].act, i, F, P ++ matchP b c l[i].cds⟩) ∧ (0 ≤ matchI b c l[i].cds → D = decGo b c dfl (i + 1) (F ++ [matchI b c l[i].cds]) (P ++ matchP b c l[i].cds) (l.drop (i + 1))) := by
  rw [List.drop_eq_getElem_cons hi, decGo] at h
  unfold matchI matchP
  cases hf : failK b c 0 l[i].cds with
  | none => rw [hf] at h; exact ⟨fun _ => h, fun hh => by simp at hh⟩
  | some p => rw [hf] at h; exact ⟨fun hh => by simp at hh; omega, fun _ => h⟩
theorem matchP_len (b : Rb) (c : Ca) (l : List Cd) (h : l.length ≤ 4) : (matchP b c l).length ≤ 4 := by
  unfold matchP
  split
  · have := prfs_lens b c l; omega
  · rename_i p _; have := prfs_len b c p.2; omega

theorem infoInt : (Tryz.prog.info? 3).map (fun i => (i.zero, i.size, i.bytes)) = some (some (.int .i64 0), 1, 8) := by kernel_rfl
theorem set4 {w : World} {b : Nat} {e : TypeId} {a0 a1 a2 a3 : Value} (h : w.heap[b]? = some (.cells #[a0, a1, a2, a3] e (0, 0))) (u0 u1 u2 u3 : Value) :
    ((((w.setCell ⟨b, 0, none⟩ u0).setCell ⟨b, 1, none⟩ u1).setCell ⟨b, 2, none⟩ u2).setCell ⟨b, 3, none⟩ u3).heap[b]? = some (.cells #[u0, u1, u2, u3] e (0, 0)) ∧ Fr [b] w ((((w.setCell ⟨b, 0, none⟩ u0).setCell ⟨b, 1, none⟩ u1).setCell ⟨b, 2, none⟩ u2).setCell ⟨b, 3, none⟩ u3) :=
  ⟨heap_setCell_same (i := 3) _ (heap_setCell_same (i := 2) _ (heap_setCell_same (i := 1) _ (heap_setCell_same (i := 0) _ h))), (((Fr.setCell _ _ (by simp)).trans (Fr.setCell _ _ (by simp))).trans (Fr.setCell _ _ (by simp))).trans (Fr.setCell _ _ (by simp))⟩

set_option maxRecDepth 1000000 in
set_option maxHeartbeats 8000000 in
theorem fDecide_c (v : Value) (ys : List RuV) (f : Fl) (vc vp vf : Value) (zs : List ClV) (b : Rb) (c : Ca) (w : World) (h : FlAt w v ys f) (hb : RbAt w vc vp vf zs b) (hc : CaOk c) :
    Calls Tryz.prog 31 #[flV v f.dfl, rbV vc vp vf, caV c] w (FDecided f b c w) := by
  have H3 := alloc3' w (.cells #[v, .int .i64 f.dfl] 65) (.cells #[vc, vp, vf] 30) (.cells #[.int .i64 c.caller, .int .i64 c.called, .int .i64 c.at_, .int .i64 c.level, .int .i64 c.fwd, .bool c.back] 68)
  have f3 : Fr [] w (((w.alloc (.cells #[v, .int .i64 f.dfl] 65)).alloc (.cells #[vc, vp, vf] 30)).alloc (.cells #[.int .i64 c.caller, .int .i64 c.called, .int .i64 c.at_, .int .i64 c.level, .int .i64 c.fwd, .bool c.back] 68)) := ((Fr.alloc _ _ _).trans (Fr.alloc _ _ _)).trans (Fr.alloc _ _ _)
  have fO := f3.trans (Fr.alloc [] _ (.cells #[.int .i64 0, .int .i64 0, .slice none 0 0, .slice none 0 0] 62))
  have HA0 := Lib.hid (heap_alloc_old (.cells #[.int .i64 0, .int .i64 0, .slice none 0 0, .slice none 0 0] 62) H3.1)
  have HA2 := Lib.hid (heap_alloc_old (.cells #[.int .i64 0, .int .i64 0, .slice none 0 0, .slice none 0 0] 62) H3.2.2)
  have HA3 := heap_alloc_new (((w.alloc (.cells #[v, .int .i64 f.dfl] 65)).alloc (.cells #[vc, vp, vf] 30)).alloc (.cells #[.int .i64 c.caller, .int .i64 c.called, .int .i64 c.at_, .int .i64 c.level, .int .i64 c.fwd, .bool c.back] 68)) (.cells #[.int .i64 0, .int .i64 0, .slice none 0 0, .slice none 0 0] 62)
  have hsz : (((w.alloc (.cells #[v, .int .i64 f.dfl] 65)).alloc (.cells #[vc, vp, vf] 30)).alloc (.cells #[.int .i64 c.caller, .int .i64 c.called, .int .i64 c.at_, .int .i64 c.level, .int .i64 c.fwd, .bool c.back] 68)).heap.size = w.heap.size + 1 + 1 + 1 := by simp
  rw [hsz] at HA3
  have HAO := Lib.hid HA3
  have FA := Lib.hid fO
  clear HA3 H3 f3 hsz fO
  obtain ⟨a, cap, rfl⟩ := h.sl.val
  have hl := h.sl.len
  obtain ⟨ac, pc, rfl⟩ := hb.cls.sl.val
  obtain ⟨ar, pr, rfl⟩ := hb.rps.val
  obtain ⟨af, pf, rfl⟩ := hb.fas.val
  have CO := Lib.hid (fOpen_c _ ys f _ _ _ zs b c _ (h.same FA.out) (hb.same FA.out) hc)
  have HFE := Lib.hid h.eq
  obtain ⟨D, hD⟩ : ∃ D, decF f b c = D := ⟨_, rfl⟩
  have HDD := Lib.hid hD
  unfold FDecided
  rw [hD]
  obtain ⟨ca, cd, at_, lv, fw, bk⟩ := c
  clear h hb hc hD
  unfold flV caV rbV at *
  simp only at CO HA0 HA2 HAO FA HDD ⊢
  go_enter Tryz.func31, Tryz.ntmps31
  go_wp2_with fail
  refine CO.out.mono ?_
  rintro e w1 ⟨f1, hr⟩
  have F1 := Lib.hid (FA.out.trans f1)
  have B3 := Lib.hid (f1.keep HAO.out (by simp))
  have K0 := cell_of_blk B3.out 0; have K1 := cell_of_blk B3.out 1; have K2 := cell_of_blk B3.out 2; have K3 := cell_of_blk B3.out 3
  have z0 := free_of_blk B3.out 0; have z1 := free_of_blk B3.out 1; have z2 := free_of_blk B3.out 2; have z3 := free_of_blk B3.out 3
  have B0 := Lib.hid (f1.keep HA0.out (by simp))
  have B2 := f1.keep HA2.out (by simp)
  have c5 := cell_of_blk B2 5
  have hb3 := blk_lt B3.out
  clear f1 CO B2 FA HA0 HA2 HAO
  rcases hr with ⟨h0, rfl⟩ | ⟨hg, bd, rfl, hbd, hd⟩
  · have HG := Lib.hid h0
    clear h0 c5
    go_wp2_with fail
    obtain ⟨KS, FS⟩ := set4 B3.out (.int .i64 0) (.int .i64 0) (.slice none 0 0) (.slice none 0 0)
    generalize (((w1.setCell ⟨w.heap.size + 1 + 1 + 1, 0, none⟩ (.int .i64 0)).setCell ⟨w.heap.size + 1 + 1 + 1, 1, none⟩ (.int .i64 0)).setCell ⟨w.heap.size + 1 + 1 + 1, 2, none⟩ (.slice none 0 0)).setCell ⟨w.heap.size + 1 + 1 + 1, 3, none⟩ (.slice none 0 0) = W3 at *
    clear K0 K1 K2 K3 z0 z1 z2 z3
    have k0 : W3.cell? ⟨w.heap.size + 1 + 1 + 1, 0, none⟩ = some (.int .i64 0) := cell_of_blk KS 0; have k1 : W3.cell? ⟨w.heap.size + 1 + 1 + 1, 1, none⟩ = some (.int .i64 0) := cell_of_blk KS 1; have k2 : W3.cell? ⟨w.heap.size + 1 + 1 + 1, 2, none⟩ = some (.slice none 0 0) := cell_of_blk KS 2; have k3 : W3.cell? ⟨w.heap.size + 1 + 1 + 1, 3, none⟩ = some (.slice none 0 0) := cell_of_blk KS 3
    have FZ : Fr [] w W3 := F1.out.step FS (fun i hi => by simp at hi; exact .inr (by omega))
    refine bodyPost_ret (by simp [results, Tryz.results31, go_sem, k0, k1, k2, k3]; try rfl) rfl ?_
    exact ⟨FZ, .inl ⟨HG.out, rfl⟩⟩
  · have HG := Lib.hid hg
    have HD := Lib.hid hd
    clear hg hd hbd
    cases bk with
    | true =>
      have HE : Hid (D = ⟨1, -2, [], []⟩) := Lib.hid (by rw [← HDD.out]; rfl)
      go_wp2_with fail
      obtain ⟨KS, FS⟩ := set4 B3.out (.int .i64 1) (.int .i64 (-2)) (.slice none 0 0) (.slice none 0 0)
      generalize (((w1.setCell ⟨w.heap.size + 1 + 1 + 1, 0, none⟩ (.int .i64 1)).setCell ⟨w.heap.size + 1 + 1 + 1, 1, none⟩ (.int .i64 (-2))).setCell ⟨w.heap.size + 1 + 1 + 1, 2, none⟩ (.slice none 0 0)).setCell ⟨w.heap.size + 1 + 1 + 1, 3, none⟩ (.slice none 0 0) = W3 at *
      clear K0 K1 K2 K3 z0 z1 z2 z3
      have k0 : W3.cell? ⟨w.heap.size + 1 + 1 + 1, 0, none⟩ = some (.int .i64 1) := cell_of_blk KS 0; have k1 : W3.cell? ⟨w.heap.size + 1 + 1 + 1, 1, none⟩ = some (.int .i64 (-2)) := cell_of_blk KS 1; have k2 : W3.cell? ⟨w.heap.size + 1 + 1 + 1, 2, none⟩ = some (.slice none 0 0) := cell_of_blk KS 2; have k3 : W3.cell? ⟨w.heap.size + 1 + 1 + 1, 3, none⟩ = some (.slice none 0 0) := cell_of_blk KS 3
      have FZ : Fr [] w W3 := F1.out.step FS (fun i hi => by simp at hi; exact .inr (by omega))
      refine bodyPost_ret (by simp [results, Tryz.results31, go_sem, k0, k1, k2, k3]; try rfl) rfl ?_
      refine ⟨FZ, .inr ⟨HG.out, .slice none 0 0, .slice none 0 0, [], by rw [HE.out], ?_⟩⟩
      rw [HE.out]
      exact ⟨⟨rfl, .inl ⟨rfl, rfl⟩⟩, PrOwn.nil _, rfl, fun g hg => (by cases hg), fun g hg => (by cases hg)⟩
    | false =>
      have HE : Hid (D = decGo b ⟨ca, cd, at_, lv, fw, false⟩ f.dfl 0 [] [] f.rus) := Lib.hid (by rw [← HDD.out]; rfl)
      have g0 := cell_of_blk B0.out 0; have g1 := cell_of_blk B0.out 1
      have hb0 := blk_lt B0.out
      have hgl := HG.out
      simp only [goodF, flB, Bool.and_eq_true, decide_eq_true_eq] at hgl
      have hyl : ys.length ≤ 20 := by have := hgl.1.1.1.1; rw [HFE.out, List.length_map] at this; exact this
      clear hgl
      have S0 := Lib.hid (⟨Fr.alloc _ _ _, heap_alloc_new _ _, ⟨rfl, .inl ⟨rfl, rfl⟩⟩, PrOwn.nil _, fun g hg => (by cases hg), fun g hg => (by cases hg)⟩ : DcS w1 f.dfl (-1) (.slice none 0 0) (.slice none 0 0) [] [] (w1.alloc (.cells #[.int .i64 f.dfl, .int .i64 (-1), .slice none 0 0, .slice none 0 0] 62)))
      go_upto_block 1 with fail
      clear g0 g1
      go_cut [] (fun W => ∃ vF vP zs, Hid (DcS w1 D.act D.rule vF vP D.fails zs W) ∧ Hid (zs.map (·.l) = D.prfs))
      case first => as_aux_lemma =>
        go_wp2_with fail
        go_loopw [37] (fun s wr => ∃ (i : Nat) (vF vP : Value) (F : List Int) (zp : List PrV), i ≤ ys.length ∧ s = .int .i64 i ∧ F.length ≤ i ∧ zp.length ≤ 4 * i ∧ Hid (DcS w1 f.dfl (-1) vF vP F zp wr) ∧ Hid (D = decGo b ⟨ca, cd, at_, lv, fw, false⟩ f.dfl i F (zp.map (·.l)) (f.rus.drop i))) (fun s _ => ys.length - (intOf s).toNat)
        case atStart => exact ⟨0, _, _, [], [], Nat.zero_le _, rfl, Nat.le_refl _, Nat.le_refl _, S0, HE⟩
        case round =>
          obtain ⟨i, vF, vP, F, zp, hi, rfl, hF, hzp, HS, HI⟩ := hrel
          obtain ⟨aF, pF, rfl⟩ := (sl_of_row HS.out.fails).val
          obtain ⟨aP, pP, rfl⟩ := (sl_of_row HS.out.own.row).val
          by_cases hlt : i < ys.length
          · have hir : i < f.rus.length := by rw [HFE.out, List.length_map]; exact hlt
            obtain ⟨rb, ro, rcap, hv, hrc⟩ := ruRow_cells (HD.out.fl.sl.same HS.out.fr) i hlt
            cases hv
            have e0 := hrc 0 _ rfl
            have e1 := hrc 1 _ rfl
            simp only [Nat.add_zero] at e0 e1
            have hst := decGo_at hir HI.out
            have hrx : f.rus[i] = ys[i].x := by simp [HFE.out]
            rw [hrx] at hst
            have hg4 := good_ru HG.out (r := ys[i].x) (by rw [HFE.out]; exact List.mem_map_of_mem (List.getElem_mem hlt))
            have hml := matchP_len b ⟨ca, cd, at_, lv, fw, false⟩ ys[i].x.cds hg4.1
            obtain ⟨al, pl, hvl⟩ := (HD.out.fl.cds _ (List.getElem_mem hlt)).val
            have CM := Lib.hid fun W hf => fMatch_c _ i hlt W (HD.out.same hf)
            unfold Matched at CM
            simp only at CM
            have HST := Lib.hid hst
            have HMP := Lib.hid hml
            generalize ys[i] = y at *
            obtain ⟨⟨l, act⟩, vl⟩ := y
            simp only at hvl CM HST HMP e0 e1
            subst hvl
            have hbo := blk_lt HS.out.box
            have hne : wr.heap.size ≠ w1.heap.size := by omega
            have FA := Lib.hid (Fr.alloc [] wr (.cells #[.slice al l.length pl, .int .i64 act] 82))
            have NB := Lib.hid (heap_alloc_new wr (.cells #[.slice al l.length pl, .int .i64 act] 82))
            have CM2 := Lib.hid (CM.out (wr.alloc (.cells #[.slice al l.length pl, .int .i64 act] 82)) (HS.out.fr.trans FA.out))
            clear hrc hst hrx hg4 hml hir CM
            go_wp2_with fail
            refine CM2.out.mono ?_
            rintro e w2 ⟨f2, v2, zs2, rfl, hp2, hz2, hn2⟩
            clear e0 e1 CM2
            obtain ⟨a2, p2, rfl⟩ := (sl_of_row hp2.row).val
            have M2 := Lib.hid (HS.out.same (FA.out.trans f2))
            have NB2 := Lib.hid (f2.keep NB.out (by simp))
            have HP2 := Lib.hid hp2
            have HZ2 := Lib.hid hz2
            have hz2l : zs2.length ≤ 4 := by
              have := congrArg List.length hz2
              rw [List.length_map] at this
              have := HMP.out
              omega
            have c3 : w2.cell? ⟨w1.heap.size, 3, none⟩ = some (.slice aP zp.length pP) := cell_of_blk M2.out.box 3
            clear f2 hp2 hz2 hn2 HS FA NB HMP hbo
            go_wp2_with (first | ((with_reducible refine wpList_of_wp (o := ⟨some 51, _, _, _, _, _⟩) rfl (fun K hK => ?_)); apply stop_in; case _other => exact trivial))
            (refine stop_in ?_ ?_; rotate_left; exact trivial)
            clear c3
            refine wp_append_src (.tmp 49) (.tmp 50) 54 34 _ 1 24 rfl Tryz.underlying54 infoFds rfl (by decide) (.slice aP zp.length pP) zp.length _ rfl M2.out.own.row (.slice a2 zs2.length p2) zs2.length _ rfl (srcAt_of_row HP2.out.row) (by simp) (fun u hu => by obtain ⟨z, _, rfl⟩ := List.mem_map.1 hu; obtain ⟨_, _, hzv⟩ := (sl_of_row (HP2.out.fds z ‹_›)).val; rw [hzv]; rfl) (by omega) (by omega) ?_
            intro ga gcap W8 r8 f8 b8
            refine hK _ _ ?_
            clear hK K
            obtain ⟨hbx, hS8⟩ := M2.out.addP HP2.out r8 f8 b8
            have HS8 := Lib.hid hS8
            have NB8 := f8.keep NB2.out (fun hm => row_box M2.out.own.row NB2.out (by decide) (by simpa using hm))
            have t0 : W8.cell? ⟨w1.heap.size, 0, none⟩ = some (.int .i64 f.dfl) := cell_of_blk hbx 0
            have t1 : W8.cell? ⟨w1.heap.size, 1, none⟩ = some (.int .i64 (-1)) := cell_of_blk hbx 1
            have t2 : W8.cell? ⟨w1.heap.size, 2, none⟩ = some (.slice aF F.length pF) := cell_of_blk hbx 2
            have t3 : W8.cell? ⟨w1.heap.size, 3, none⟩ = some (.slice aP zp.length pP) := cell_of_blk hbx 3
            have y0 : W8.frozen? ⟨w1.heap.size, 0, none⟩ = false := free_of_blk hbx 0
            have y1 : W8.frozen? ⟨w1.heap.size, 1, none⟩ = false := free_of_blk hbx 1
            have y3 : W8.frozen? ⟨w1.heap.size, 3, none⟩ = false := free_of_blk hbx 3
            have q1 : W8.cell? ⟨wr.heap.size, 1, none⟩ = some (.int .i64 act) := cell_of_blk NB8 1
            have HZ8 : Hid ((zp ++ zs2).map (·.l) = zp.map (·.l) ++ matchP b ⟨ca, cd, at_, lv, fw, false⟩ l) := Lib.hid (by rw [List.map_append, HZ2.out])
            clear r8 f8 b8 hbx hS8 NB8 M2 HP2 NB2 HZ2
            obtain ⟨m, hm⟩ : ∃ m, matchI b ⟨ca, cd, at_, lv, fw, false⟩ l = m := ⟨_, rfl⟩
            rw [hm] at HST ⊢
            clear hm
            by_cases hneg : m < 0
            · have HDe := Lib.hid (HST.out.1 hneg)
              go_wp2_with fail
              go_meet
              case rel =>
                have h1 := HS8.out.put (act' := act) (rule' := -1) (i := 0) (u := .int .i64 act) HS8.out.fails HS8.out.own HS8.out.newF HS8.out.newP rfl
                have h2 := h1.put (act' := act) (rule' := i) (i := 1) (u := .int .i64 i) h1.fails h1.own h1.newF h1.newP rfl
                exact ⟨_, _, zp ++ zs2, by rw [HDe.out]; exact Lib.hid h2, by rw [HDe.out]; exact HZ8⟩
            · have HDe := Lib.hid (HST.out.2 (by omega))
              go_wp2_with (first | ((with_reducible refine wpList_of_wp (o := ⟨some 64, _, _, _, _, _⟩) rfl (fun K hK => ?_)); apply stop_in; case _other => exact trivial))
              (refine stop_in ?_ ?_; rotate_left; exact trivial)
              clear t0 t1 t2 t3 y0 y1 y3 q1
              have hsz : (W8.setCell ⟨w1.heap.size, 3, none⟩ (.slice ga (zp.length + zs2.length) gcap)).heap.size = W8.heap.size := by simp
              have hsr := srcAt_one (W8.setCell ⟨w1.heap.size, 3, none⟩ (.slice ga (zp.length + zs2.length) gcap)) (.int .i64 m) 3
              rw [hsz] at hsr
              have HS9 := HS8.out.same (Fr.alloc [] _ (.cells #[.int .i64 m] 3))
              refine wp_append_src (.tmp 61) (.tmp 63) 48 3 _ 1 8 rfl Tryz.underlying48 infoInt rfl (by decide) (.slice aF F.length pF) F.length _ rfl HS9.fails _ 1 [.int .i64 m] rfl hsr rfl (by simp [Value.oneCell']) (by omega) (by omega) ?_
              intro gb gcb W9 r9 f9 b9
              refine hK _ _ ?_
              clear hK K
              obtain ⟨hbx, hS10⟩ := HS9.addF r9 f9 b9
              have t2 : W9.cell? ⟨w1.heap.size, 2, none⟩ = some (.slice aF F.length pF) := cell_of_blk hbx 2
              have y2 : W9.frozen? ⟨w1.heap.size, 2, none⟩ = false := free_of_blk hbx 2
              have H10 := Lib.hid hS10
              clear hsz hsr HS9 r9 f9 b9 hbx hS10
              go_wp2_with fail
              go_roundw
              case rel => exact ⟨i + 1, _, _, F ++ [m], zp ++ zs2, by omega, by go_num, by simp; omega, by rw [List.length_append]; omega, H10, by rw [HZ8.out]; exact HDe⟩
              case measure => simp [intOf]; omega
          · obtain rfl : i = ys.length := by omega
            have HDe : Hid (D = ⟨f.dfl, -1, F, zp.map (·.l)⟩) := Lib.hid (by rw [HI.out, List.drop_of_length_le (by rw [HFE.out, List.length_map]; exact Nat.le_refl _)]; rfl)
            go_wp2_with fail
            go_meet
            case rel => exact ⟨_, _, zp, by rw [HDe.out]; exact HS, by rw [HDe.out]; exact Lib.hid rfl⟩
      case rest =>
        obtain ⟨vF, vP, zp, HS, HZ⟩ := hcut
        obtain ⟨w9, hw9⟩ : ∃ W : World, wc = W := ⟨_, rfl⟩
        rw [hw9] at HS ⊢
        clear hw9
        obtain ⟨aF, pF, rfl⟩ := (sl_of_row HS.out.fails).val
        obtain ⟨aP, pP, rfl⟩ := (sl_of_row HS.out.own.row).val
        have t0 : w9.cell? ⟨w1.heap.size, 0, none⟩ = some (.int .i64 D.act) := cell_of_blk HS.out.box 0
        have t1 : w9.cell? ⟨w1.heap.size, 1, none⟩ = some (.int .i64 D.rule) := cell_of_blk HS.out.box 1
        have t2 : w9.cell? ⟨w1.heap.size, 2, none⟩ = some (.slice aF D.fails.length pF) := cell_of_blk HS.out.box 2
        have t3 : w9.cell? ⟨w1.heap.size, 3, none⟩ = some (.slice aP zp.length pP) := cell_of_blk HS.out.box 3
        have B9 := HS.out.fr.keep B3.out (by simp)
        have K0 := cell_of_blk B9 0; have K1 := cell_of_blk B9 1; have K2 := cell_of_blk B9 2; have K3 := cell_of_blk B9 3
        have z0 := free_of_blk B9 0; have z1 := free_of_blk B9 1; have z2 := free_of_blk B9 2; have z3 := free_of_blk B9 3
        have HB9 := Lib.hid B9
        clear B9
        go_wp2_with fail
        obtain ⟨KS, FS⟩ := set4 HB9.out (.int .i64 D.act) (.int .i64 D.rule) (.slice aF D.fails.length pF) (.slice aP zp.length pP)
        have hb3' : w.heap.size + 1 + 1 + 1 < w9.heap.size := blk_lt HB9.out
        have DO : DnOwn w w9 (.slice aF D.fails.length pF) (.slice aP zp.length pP) D zp := ⟨HS.out.fails, HS.out.own, HZ.out, fun g hg => Nat.le_trans F1.out.size (HS.out.newF g hg), fun g hg => Nat.le_trans F1.out.size (HS.out.newP g hg)⟩
        have DZ : DnOwn w _ (.slice aF D.fails.length pF) (.slice aP zp.length pP) D zp := ⟨ownsRow_keep DO.fails (fun g hg => FS.block g (ownsRow_lt DO.fails hg) (fun hm => by rw [List.mem_singleton] at hm; subst hm; exact row_box DO.fails HB9.out (by decide) hg)), DO.own.box HB9.out (by decide) (by decide) FS, DO.eq, DO.newF, DO.newP⟩
        have FZ := (F1.out.trans HS.out.fr).step FS (fun i hi => by simp at hi; exact .inr (by omega))
        clear DO
        generalize (((w9.setCell ⟨w.heap.size + 1 + 1 + 1, 0, none⟩ (.int .i64 D.act)).setCell ⟨w.heap.size + 1 + 1 + 1, 1, none⟩ (.int .i64 D.rule)).setCell ⟨w.heap.size + 1 + 1 + 1, 2, none⟩ (.slice aF D.fails.length pF)).setCell ⟨w.heap.size + 1 + 1 + 1, 3, none⟩ (.slice aP zp.length pP) = W3 at *
        clear K0 K1 K2 K3 z0 z1 z2 z3 t0 t1 t2 t3
        have k0 : W3.cell? ⟨w.heap.size + 1 + 1 + 1, 0, none⟩ = some (.int .i64 D.act) := cell_of_blk KS 0
        have k1 : W3.cell? ⟨w.heap.size + 1 + 1 + 1, 1, none⟩ = some (.int .i64 D.rule) := cell_of_blk KS 1
        have k2 : W3.cell? ⟨w.heap.size + 1 + 1 + 1, 2, none⟩ = some (.slice aF D.fails.length pF) := cell_of_blk KS 2
        have k3 : W3.cell? ⟨w.heap.size + 1 + 1 + 1, 3, none⟩ = some (.slice aP zp.length pP) := cell_of_blk KS 3
        refine bodyPost_ret (by simp [results, Tryz.results31, go_sem, k0, k1, k2, k3]; try rfl) rfl ?_
        exact ⟨FZ, .inr ⟨HG.out, _, _, zp, rfl, DZ⟩⟩

end Go.Proofs.YtkopnooajikpmaaGreat
