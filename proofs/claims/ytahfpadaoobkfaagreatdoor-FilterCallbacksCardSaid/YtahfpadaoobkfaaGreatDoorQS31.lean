/-
  filter: Decide, walked.
-/
import Derived.Test.YtahfpadaoobkfaaGreatDoorQS30
import Derived.Test.YtahfpadaoobkfaaGreatDoorQS25
import Derived.RangeFuncNested
import Derived.RangeFuncBound
import Derived.RangeFuncCalls
import Derived.RangeFuncLeaves
import Derived.Shelf.Abstract
import Derived.Shelf.RegionOpen
import Derived.OwnWalkIn
import Derived.TacticsInMore
import Derived.LoopNIn
import Derived.LoopIn
namespace Go.Proofs.YtahfpadaoobkfaaGreatDoor
open Go.RowKit Go.Lib

theorem decGo_at {b : Rb} {c : Ca} {dfl : Int} {l : List Ru} {i : Nat} {F : List Int} {P : List (List Fd)} {D : Dn} (hi : i < l.length) (h : D = decGo b c dfl i F P (l.drop i)) :
    (matchI b c l[i].cds < 0 → D = ⟨l[i].act, i, F, P ++ matchP b c l[i].cds⟩) ∧ (0 ≤ matchI b c l[i].cds → D = decGo b c dfl (i + 1) (F ++ [matchI b c l[i].cds]) (P ++ matchP b c l[i].cds) (l.drop (i + 1))) := by
  rw [List.drop_eq_getElem_cons hi, decGo] at h
  unfold matchI matchP
  cases hf : failK b c 0 l[i].cds with
  | none => rw [hf] at h; exact ⟨fun _ => h, fun hh => by simp at hh⟩
  | some p => rw [hf] at h; exact ⟨fun hh => by simp at hh; omega, fun _ => h⟩
theorem matchP_len (b : Rb) (c : Ca) (l : List Cd) (h : l.length ≤ 4) : (matchP b c l).length ≤ 4 := by
  unfold matchP
  split
  · have := prfs_lens b c l; omega
  · rename_i p _; have := prfs_len b c p.2; omega

theorem infoInt : (Tryz.prog.info? 3).map (fun i => (i.zero, i.size, i.bytes)) = some (some (.int .i64 0), 1, 8) := by kernel_rfl
theorem set4 {w : World} {b : Nat} {e : TypeId} {a0 a1 a2 a3 : Value} (h : w.heap[b]? = some (.cells #[a0, a1, a2, a3] e (0, 0))) (u0 u1 u2 u3 : Value) :
    ((((w.setCell ⟨b, 0, none⟩ u0).setCell ⟨b, 1, none⟩ u1).setCell ⟨b, 2, none⟩ u2).setCell ⟨b, 3, none⟩ u3).heap[b]? = some (.cells #[u0, u1, u2, u3] e (0, 0)) ∧ Fr [b] w ((((w.setCell ⟨b, 0, none⟩ u0).setCell ⟨b, 1, none⟩ u1).setCell ⟨b, 2, none⟩ u2).setCell ⟨b, 3, none⟩ u3) :=
  ⟨heap_setCell_same (i := 3) _ (heap_setCell_same (i := 2) _ (heap_setCell_same (i := 1) _ (heap_setCell_same (i := 0) _ h))), (((Fr.setCell _ _ (by simp)).trans (Fr.setCell _ _ (by simp))).trans (Fr.setCell _ _ (by simp))).trans (Fr.setCell _ _ (by simp))⟩

set_option maxRecDepth 1000000 in
set_option maxHeartbeats 8000000 in
theorem fDecide_c (v : Value) (ys : List RuV) (f : Fl) (vc vp vf : Value) (zs : List ClV) (b : Rb) (c : Ca) (w : World) (h : FlAt w v ys f) (hb : RbAt w vc vp vf zs b) (hc : CaOk c) :
    Calls Tryz.prog 17 #[flV v f.dfl, rbV vc vp vf, caV c] w (FDecided f b c w) := by
  have H3 := alloc3' w (.cells #[v, .int .i64 f.dfl] 69) (.cells #[vc, vp, vf] 36) (.cells #[.int .i64 c.caller, .int .i64 c.called, .int .i64 c.at_, .int .i64 c.level, .int .i64 c.fwd, .bool c.back] 54)
  have f3 : Fr [] w (((w.alloc (.cells #[v, .int .i64 f.dfl] 69)).alloc (.cells #[vc, vp, vf] 36)).alloc (.cells #[.int .i64 c.caller, .int .i64 c.called, .int .i64 c.at_, .int .i64 c.level, .int .i64 c.fwd, .bool c.back] 54)) := ((Fr.alloc _ _ _).trans (Fr.alloc _ _ _)).trans (Fr.alloc _ _ _)
  have fO := f3.trans (Fr.alloc [] _ (.cells #[.int .i64 0, .int .i64 0, .slice none 0 0, .slice none 0 0] 75))
  have HA0 := Lib.hid (heap_alloc_old (.cells #[.int .i64 0, .int .i64 0, .slice none 0 0, .slice none 0 0] 75) H3.1)
  have HA2 := Lib.hid (heap_alloc_old (.cells #[.int .i64 0, .int .i64 0, .slice none 0 0, .slice none 0 0] 75) H3.2.2)
  have HA3 := heap_alloc_new (((w.alloc (.cells #[v, .int .i64 f.dfl] 69)).alloc (.cells #[vc, vp, vf] 36)).alloc (.cells #[.int .i64 c.caller, .int .i64 c.called, .int .i64 c.at_, .int .i64 c.level, .int .i64 c.fwd, .bool c.back] 54)) (.cells #[.int .i64 0, .int .i64 0, .slice none 0 0, .slice none 0 0] 75)
  have hsz : (((w.alloc (.cells #[v, .int .i64 f.dfl] 69)).alloc (.cells #[vc, vp, vf] 36)).alloc (.cells #[.int .i64 c.caller, .int .i64 c.called, .int .i64 c.at_, .int .i64 c.level, .int .i64 c.fwd, .bool c.back] 54)).heap.size = w.heap.size + 1 + 1 + 1 := by simp
  rw [hsz] at HA3
  have HAO := Lib.hid HA3
  have FA := Lib.hid fO
  clear HA3 H3 f3 hsz fO
  obtain ⟨a, cap, rfl⟩ := h.sl.val
  have hl := h.sl.len
  obtain ⟨ac, pc, rfl⟩ := hb.cls.sl.val
  obtain ⟨ar, pr, rfl⟩ := hb.rps.val
  obtain ⟨af, pf, rfl⟩ := hb.fas.val
  have CO := Lib.hid (fOpen_c _ ys f _ _ _ zs b c _ (h.same FA.out) (hb.same FA.out) hc)
  have HFE := Lib.hid h.eq
  obtain ⟨D, hD⟩ : ∃ D, decF f b c = D := ⟨_, rfl⟩
  have HDD := Lib.hid hD
  unfold FDecided
  rw [hD]
  obtain ⟨ca, cd, at_, lv, fw, bk⟩ := c
  clear h hb hc hD
  unfold flV caV rbV at *
  simp only at CO HA0 HA2 HAO FA HDD ⊢
  go_enter Tryz.func17, Tryz.ntmps17
  go_wp2_with fail
  refine CO.out.mono ?_
  rintro e w1 ⟨f1, hr⟩
  have F1 := Lib.hid (FA.out.trans f1)
  have B3 := Lib.hid (f1.keep HAO.out (by simp))
  have K0 := cell_of_blk B3.out 0; have K1 := cell_of_blk B3.out 1; have K2 := cell_of_blk B3.out 2; have K3 := cell_of_blk B3.out 3
  have z0 := free_of_blk B3.out 0; have z1 := free_of_blk B3.out 1; have z2 := free_of_blk B3.out 2; have z3 := free_of_blk B3.out 3
  have B0 := Lib.hid (f1.keep HA0.out (by simp))
  have B2 := f1.keep HA2.out (by simp)
  have c5 := cell_of_blk B2 5
  have hb3 := blk_lt B3.out
  clear f1 CO B2 FA HA0 HA2 HAO
  rcases hr with ⟨h0, rfl⟩ | ⟨hg, bd, rfl, hbd, hd⟩
  · have HG := Lib.hid h0
    clear h0 c5
    go_wp2_with fail
    obtain ⟨KS, FS⟩ := set4 B3.out (.int .i64 0) (.int .i64 0) (.slice none 0 0) (.slice none 0 0)
    generalize (((w1.setCell ⟨w.heap.size + 1 + 1 + 1, 0, none⟩ (.int .i64 0)).setCell ⟨w.heap.size + 1 + 1 + 1, 1, none⟩ (.int .i64 0)).setCell ⟨w.heap.size + 1 + 1 + 1, 2, none⟩ (.slice none 0 0)).setCell ⟨w.heap.size + 1 + 1 + 1, 3, none⟩ (.slice none 0 0) = W3 at *
    clear K0 K1 K2 K3 z0 z1 z2 z3
    have k0 : W3.cell? ⟨w.heap.size + 1 + 1 + 1, 0, none⟩ = some (.int .i64 0) := cell_of_blk KS 0; have k1 : W3.cell? ⟨w.heap.size + 1 + 1 + 1, 1, none⟩ = some (.int .i64 0) := cell_of_blk KS 1; have k2 : W3.cell? ⟨w.heap.size + 1 + 1 + 1, 2, none⟩ = some (.slice none 0 0) := cell_of_blk KS 2; have k3 : W3.cell? ⟨w.heap.size + 1 + 1 + 1, 3, none⟩ = some (.slice none 0 0) := cell_of_blk KS 3
    have FZ : Fr [] w W3 := F1.out.step FS (fun i hi => by simp at hi; exact .inr (by omega))
    refine bodyPost_ret (by simp [results, Tryz.results17, go_sem, k0, k1, k2, k3]; try rfl) rfl ?_
    exact ⟨FZ, .inl ⟨HG.out, rfl⟩⟩
  · have HG := Lib.hid hg
    have HD := Lib.hid hd
    clear hg hd hbd
    cases bk with
    | true =>
      have HE : Hid (D = ⟨1, -2, [], []⟩) := Lib.hid (by rw [← HDD.out]; rfl)
      go_wp2_with fail
      obtain ⟨KS, FS⟩ := set4 B3.out (.int .i64 1) (.int .i64 (-2)) (.slice none 0 0) (.slice none 0 0)
      generalize (((w1.setCell ⟨w.heap.size + 1 + 1 + 1, 0, none⟩ (.int .i64 1)).setCell ⟨w.heap.size + 1 + 1 + 1, 1, none⟩ (.int .i64 (-2))).setCell ⟨w.heap.size + 1 + 1 + 1, 2, none⟩ (.slice none 0 0)).setCell ⟨w.heap.size + 1 + 1 + 1, 3, none⟩ (.slice none 0 0) = W3 at *
      clear K0 K1 K2 K3 z0 z1 z2 z3
      have k0 : W3.cell? ⟨w.heap.size + 1 + 1 + 1, 0, none⟩ = some (.int .i64 1) := cell_of_blk KS 0; have k1 : W3.cell? ⟨w.heap.size + 1 + 1 + 1, 1, none⟩ = some (.int .i64 (-2)) := cell_of_blk KS 1; have k2 : W3.cell? ⟨w.heap.size + 1 + 1 + 1, 2, none⟩ = some (.slice none 0 0) := cell_of_blk KS 2; have k3 : W3.cell? ⟨w.heap.size + 1 + 1 + 1, 3, none⟩ = some (.slice none 0 0) := cell_of_blk KS 3
      have FZ : Fr [] w W3 := F1.out.step FS (fun i hi => by simp at hi; exact .inr (by omega))
      refine bodyPost_ret (by simp [results, Tryz.results17, go_sem, k0, k1, k2, k3]; try rfl) rfl ?_
      refine ⟨FZ, .inr ⟨HG.out, .slice none 0 0, .slice none 0 0, [], by rw [HE.out], ?_⟩⟩
      rw [HE.out]
      exact ⟨⟨rfl, .inl ⟨rfl, rfl⟩⟩, PrOwn.nil _, rfl, fun g hg => (by cases hg), fun g hg => (by cases hg)⟩
    | false =>
      have HE : Hid (D = decGo b ⟨ca, cd, at_, lv, fw, false⟩ f.dfl 0 [] [] f.rus) := Lib.hid (by rw [← HDD.out]; rfl)
      have g0 := cell_of_blk B0.out 0; have g1 := cell_of_blk B0.out 1
      have hb0 := blk_lt B0.out
      have hgl := HG.out
      simp only [goodF, flB, Bool.and_eq_true, decide_eq_true_eq] at hgl
      have hyl : ys.length ≤ 20 := by have := hgl.1.1.1.1; rw [HFE.out, List.length_map] at this; exact this
      clear hgl
      have S0 := Lib.hid (⟨Fr.alloc _ _ _, heap_alloc_new _ _, ⟨rfl, .inl ⟨rfl, rfl⟩⟩, PrOwn.nil _, fun g hg => (by cases hg), fun g hg => (by cases hg)⟩ : DcS w1 f.dfl (-1) (.slice none 0 0) (.slice none 0 0) [] [] (w1.alloc (.cells #[.int .i64 f.dfl, .int .i64 (-1), .slice none 0 0, .slice none 0 0] 75)))
      go_upto_block 1 with fail
      clear g0 g1
      go_cut [] (fun W => ∃ vF vP zs, Hid (DcS w1 D.act D.rule vF vP D.fails zs W) ∧ Hid (zs.map (·.l) = D.prfs))
      case first => as_aux_lemma =>
        go_wp2_with fail
        go_loopw [37] (fun s wr => ∃ (i : Nat) (vF vP : Value) (F : List Int) (zp : List PrV), i ≤ ys.length ∧ s = .int .i64 i ∧ F.length ≤ i ∧ zp.length ≤ 4 * i ∧ Hid (DcS w1 f.dfl (-1) vF vP F zp wr) ∧ Hid (D = decGo b ⟨ca, cd, at_, lv, fw, false⟩ f.dfl i F (zp.map (·.l)) (f.rus.drop i))) (fun s _ => ys.length - (intOf s).toNat)
        case atStart => exact ⟨0, _, _, [], [], Nat.zero_le _, rfl, Nat.le_refl _, Nat.le_refl _, S0, HE⟩
        case round =>
          obtain ⟨i, vF, vP, F, zp, hi, rfl, hF, hzp, HS, HI⟩ := hrel
          obtain ⟨aF, pF, rfl⟩ := (sl_of_row HS.out.fails).val
          obtain ⟨aP, pP, rfl⟩ := (sl_of_row HS.out.own.row).val
          by_cases hlt : i < ys.length
          · have hir : i < f.rus.length := by rw [HFE.out, List.length_map]; exact hlt
            obtain ⟨rb, ro, rcap, hv, hrc⟩ := ruRow_cells (HD.out.fl.sl.same HS.out.fr) i hlt
            cases hv
            have e0 := hrc 0 _ rfl
            have e1 := hrc 1 _ rfl
            simp only [Nat.add_zero] at e0 e1
            have hst := decGo_at hir HI.out
            have hrx : f.rus[i] = ys[i].x := by simp [HFE.out]
            rw [hrx] at hst
            have hg4 := good_ru HG.out (r := ys[i].x) (by rw [HFE.out]; exact List.mem_map_of_mem (List.getElem_mem hlt))
            have hml := matchP_len b ⟨ca, cd, at_, lv, fw, false⟩ ys[i].x.cds hg4.1
            obtain ⟨al, pl, hvl⟩ := (HD.out.fl.cds _ (List.getElem_mem hlt)).val
            have CM := Lib.hid fun W hf => fMatch_c _ i hlt W (HD.out.same hf)
            unfold Matched at CM
            simp only at CM
            have HST := Lib.hid hst
            have HMP := Lib.hid hml
            generalize ys[i] = y at *
            obtain ⟨⟨l, act⟩, vl⟩ := y
            simp only at hvl CM HST HMP e0 e1
            subst hvl
            have hbo := blk_lt HS.out.box
            have hne : wr.heap.size ≠ w1.heap.size := by omega
            have FA := Lib.hid (Fr.alloc [] wr (.cells #[.slice al l.length pl, .int .i64 act] 66))
            have NB := Lib.hid (heap_alloc_new wr (.cells #[.slice al l.length pl, .int .i64 act] 66))
            have CM2 := Lib.hid (CM.out (wr.alloc (.cells #[.slice al l.length pl, .int .i64 act] 66)) (HS.out.fr.trans FA.out))
            clear hrc hst hrx hg4 hml hir CM
            go_wp2_with fail
            refine CM2.out.mono ?_
            rintro e w2 ⟨f2, v2, zs2, rfl, hp2, hz2, hn2⟩
            clear e0 e1 CM2
            obtain ⟨a2, p2, rfl⟩ := (sl_of_row hp2.row).val
            have M2 := Lib.hid (HS.out.same (FA.out.trans f2))
            have NB2 := Lib.hid (f2.keep NB.out (by simp))
            have HP2 := Lib.hid hp2
            have HZ2 := Lib.hid hz2
            have hz2l : zs2.length ≤ 4 := by
              have := congrArg List.length hz2
              rw [List.length_map] at this
              have := HMP.out
              omega
            have c3 : w2.cell? ⟨w1.heap.size, 3, none⟩ = some (.slice aP zp.length pP) := cell_of_blk M2.out.box 3
            clear f2 hp2 hz2 hn2 HS FA NB HMP hbo
            go_wp2_with (first | ((with_reducible refine wpList_of_wp (o := ⟨some 51, _, _, _, _, _⟩) rfl (fun K hK => ?_)); apply stop_in; case _other => exact trivial))
            (refine stop_in ?_ ?_; rotate_left; exact trivial)
            clear c3
            refine wp_append_src (.tmp 49) (.tmp 50) 73 96 _ 1 24 rfl Tryz.underlying73 infoFds rfl (by decide) (.slice aP zp.length pP) zp.length _ rfl M2.out.own.row (.slice a2 zs2.length p2) zs2.length _ rfl (srcAt_of_row HP2.out.row) (by simp) (fun u hu => by obtain ⟨z, _, rfl⟩ := List.mem_map.1 hu; obtain ⟨_, _, hzv⟩ := (sl_of_row (HP2.out.fds z ‹_›)).val; rw [hzv]; rfl) (by omega) (by omega) ?_
            intro ga gcap W8 r8 f8 b8
            refine hK _ _ ?_
            clear hK K
            obtain ⟨hbx, hS8⟩ := M2.out.addP HP2.out r8 f8 b8
            have HS8 := Lib.hid hS8
            have NB8 := f8.keep NB2.out (fun hm => row_box M2.out.own.row NB2.out (by decide) (by simpa using hm))
            have t0 : W8.cell? ⟨w1.heap.size, 0, none⟩ = some (.int .i64 f.dfl) := cell_of_blk hbx 0
            have t1 : W8.cell? ⟨w1.heap.size, 1, none⟩ = some (.int .i64 (-1)) := cell_of_blk hbx 1
            have t2 : W8.cell? ⟨w1.heap.size, 2, none⟩ = some (.slice aF F.length pF) := cell_of_blk hbx 2
            have t3 : W8.cell? ⟨w1.heap.size, 3, none⟩ = some (.slice aP zp.length pP) := cell_of_blk hbx 3
            have y0 : W8.frozen? ⟨w1.heap.size, 0, none⟩ = false := free_of_blk hbx 0
            have y1 : W8.frozen? ⟨w1.heap.size, 1, none⟩ = false := free_of_blk hbx 1
            have y3 : W8.frozen? ⟨w1.heap.size, 3, none⟩ = false := free_of_blk hbx 3
            have q1 : W8.cell? ⟨wr.heap.size, 1, none⟩ = some (.int .i64 act) := cell_of_blk NB8 1
            have HZ8 : Hid ((zp ++ zs2).map (·.l) = zp.map (·.l) ++ matchP b ⟨ca, cd, at_, lv, fw, false⟩ l) := Lib.hid (by rw [List.map_append, HZ2.out])
            clear r8 f8 b8 hbx hS8 NB8 M2 HP2 NB2 HZ2
            obtain ⟨m, hm⟩ : ∃ m, matchI b ⟨ca, cd, at_, lv, fw, false⟩ l = m := ⟨_, rfl⟩
            rw [hm] at HST ⊢
            clear hm
            by_cases hneg : m < 0
            · have HDe := Lib.hid (HST.out.1 hneg)
              go_wp2_with fail
              go_meet
              case rel =>
                have h1 := HS8.out.put (act' := act) (rule' := -1) (i := 0) (u := .int .i64 act) HS8.out.fails HS8.out.own HS8.out.newF HS8.out.newP rfl
                have h2 := h1.put (act' := act) (rule' := i) (i := 1) (u := .int .i64 i) h1.fails h1.own h1.newF h1.newP rfl
                exact ⟨_, _, zp ++ zs2, by rw [HDe.out]; exact Lib.hid h2, by rw [HDe.out]; exact HZ8⟩
            · have HDe := Lib.hid (HST.out.2 (by omega))
              go_wp2_with (first | ((with_reducible refine wpList_of_wp (o := ⟨some 64, _, _, _, _, _⟩) rfl (fun K hK => ?_)); apply stop_in; case _other => exact trivial))
              (refine stop_in ?_ ?_; rotate_left; exact trivial)
              clear t0 t1 t2 t3 y0 y1 y3 q1
              have hsz : (W8.setCell ⟨w1.heap.size, 3, none⟩ (.slice ga (zp.length + zs2.length) gcap)).heap.size = W8.heap.size := by simp
              have hsr := srcAt_one (W8.setCell ⟨w1.heap.size, 3, none⟩ (.slice ga (zp.length + zs2.length) gcap)) (.int .i64 m) 3
              rw [hsz] at hsr
              have HS9 := HS8.out.same (Fr.alloc [] _ (.cells #[.int .i64 m] 3))
              refine wp_append_src (.tmp 61) (.tmp 63) 23 3 _ 1 8 rfl Tryz.underlying23 infoInt rfl (by decide) (.slice aF F.length pF) F.length _ rfl HS9.fails _ 1 [.int .i64 m] rfl hsr rfl (by simp [Value.oneCell']) (by omega) (by omega) ?_
              intro gb gcb W9 r9 f9 b9
              refine hK _ _ ?_
              clear hK K
              obtain ⟨hbx, hS10⟩ := HS9.addF r9 f9 b9
              have t2 : W9.cell? ⟨w1.heap.size, 2, none⟩ = some (.slice aF F.length pF) := cell_of_blk hbx 2
              have y2 : W9.frozen? ⟨w1.heap.size, 2, none⟩ = false := free_of_blk hbx 2
              have H10 := Lib.hid hS10
              clear hsz hsr HS9 r9 f9 b9 hbx hS10
              go_wp2_with fail
              go_roundw
              case rel => exact ⟨i + 1, _, _, F ++ [m], zp ++ zs2, by omega, by go_num, by simp; omega, by rw [List.length_append]; omega, H10, by rw [HZ8.out]; exact HDe⟩
              case measure => simp [intOf]; omega
          · obtain rfl : i = ys.length := by omega
            have HDe : Hid (D = ⟨f.dfl, -1, F, zp.map (·.l)⟩) := Lib.hid (by rw [HI.out, List.drop_of_length_le (by rw [HFE.out, List.length_map]; exact Nat.le_refl _)]; rfl)
            go_wp2_with fail
            go_meet
            case rel => exact ⟨_, _, zp, by rw [HDe.out]; exact HS, by rw [HDe.out]; exact Lib.hid rfl⟩
      case rest =>
        obtain ⟨vF, vP, zp, HS, HZ⟩ := hcut
        obtain ⟨w9, hw9⟩ : ∃ W : World, wc = W := ⟨_, rfl⟩
        rw [hw9] at HS ⊢
        clear hw9
        obtain ⟨aF, pF, rfl⟩ := (sl_of_row HS.out.fails).val
        obtain ⟨aP, pP, rfl⟩ := (sl_of_row HS.out.own.row).val
        have t0 : w9.cell? ⟨w1.heap.size, 0, none⟩ = some (.int .i64 D.act) := cell_of_blk HS.out.box 0
        have t1 : w9.cell? ⟨w1.heap.size, 1, none⟩ = some (.int .i64 D.rule) := cell_of_blk HS.out.box 1
        have t2 : w9.cell? ⟨w1.heap.size, 2, none⟩ = some (.slice aF D.fails.length pF) := cell_of_blk HS.out.box 2
        have t3 : w9.cell? ⟨w1.heap.size, 3, none⟩ = some (.slice aP zp.length pP) := cell_of_blk HS.out.box 3
        have B9 := HS.out.fr.keep B3.out (by simp)
        have K0 := cell_of_blk B9 0; have K1 := cell_of_blk B9 1; have K2 := cell_of_blk B9 2; have K3 := cell_of_blk B9 3
        have z0 := free_of_blk B9 0; have z1 := free_of_blk B9 1; have z2 := free_of_blk B9 2; have z3 := free_of_blk B9 3
        have HB9 := Lib.hid B9
        clear B9
        go_wp2_with fail
        obtain ⟨KS, FS⟩ := set4 HB9.out (.int .i64 D.act) (.int .i64 D.rule) (.slice aF D.fails.length pF) (.slice aP zp.length pP)
        have hb3' : w.heap.size + 1 + 1 + 1 < w9.heap.size := blk_lt HB9.out
        have DO : DnOwn w w9 (.slice aF D.fails.length pF) (.slice aP zp.length pP) D zp := ⟨HS.out.fails, HS.out.own, HZ.out, fun g hg => Nat.le_trans F1.out.size (HS.out.newF g hg), fun g hg => Nat.le_trans F1.out.size (HS.out.newP g hg)⟩
        have DZ : DnOwn w _ (.slice aF D.fails.length pF) (.slice aP zp.length pP) D zp := ⟨ownsRow_keep DO.fails (fun g hg => FS.block g (ownsRow_lt DO.fails hg) (fun hm => by rw [List.mem_singleton] at hm; subst hm; exact row_box DO.fails HB9.out (by decide) hg)), DO.own.box HB9.out (by decide) (by decide) FS, DO.eq, DO.newF, DO.newP⟩
        have FZ := (F1.out.trans HS.out.fr).step FS (fun i hi => by simp at hi; exact .inr (by omega))
        clear DO
        generalize (((w9.setCell ⟨w.heap.size + 1 + 1 + 1, 0, none⟩ (.int .i64 D.act)).setCell ⟨w.heap.size + 1 + 1 + 1, 1, none⟩ (.int .i64 D.rule)).setCell ⟨w.heap.size + 1 + 1 + 1, 2, none⟩ (.slice aF D.fails.length pF)).setCell ⟨w.heap.size + 1 + 1 + 1, 3, none⟩ (.slice aP zp.length pP) = W3 at *
        clear K0 K1 K2 K3 z0 z1 z2 z3 t0 t1 t2 t3
        have k0 : W3.cell? ⟨w.heap.size + 1 + 1 + 1, 0, none⟩ = some (.int .i64 D.act) := cell_of_blk KS 0
        have k1 : W3.cell? ⟨w.heap.size + 1 + 1 + 1, 1, none⟩ = some (.int .i64 D.rule) := cell_of_blk KS 1
        have k2 : W3.cell? ⟨w.heap.size + 1 + 1 + 1, 2, none⟩ = some (.slice aF D.fails.length pF) := cell_of_blk KS 2
        have k3 : W3.cell? ⟨w.heap.size + 1 + 1 + 1, 3, none⟩ = some (.slice aP zp.length pP) := cell_of_blk KS 3
        refine bodyPost_ret (by simp [results, Tryz.results17, go_sem, k0, k1, k2, k3]; try rfl) rfl ?_
        exact ⟨FZ, .inr ⟨HG.out, _, _, zp, rfl, DZ⟩⟩

end Go.Proofs.YtahfpadaoobkfaaGreatDoor

/-
  What a decision claims, one claim after the other.
-/
namespace Go.Proofs.YtahfpadaoobkfaaGreatDoor

/-- A claim of a condition; or the sign that there is none. -/
structure Clm where
  x : Cd
  want : Bool
  ok : Bool
def noClm : Clm := ⟨⟨0, 0, 0, false⟩, false, false⟩
def claimsF : List Ru → List Int → List Clm → List Clm
  | r :: rs, k :: ks, E => if isInB k 0 (r.cds.length - 1) then ⟨r.cds.getD k.toNat default, false, true⟩ :: claimsF rs ks E else [noClm]
  | _, _, E => E
def claimsR (f : Fl) (rule : Int) : List Clm := if rule = -1 then [] else (f.rus.getD rule.toNat default).cds.map fun x => ⟨x, true, true⟩
def claimsL (f : Fl) (x : Dn) : List Clm := claimsF f.rus x.fails (claimsR f x.rule)
/-- The proofs that are left behind claims. -/
def runC (b : Rb) (c : Ca) : List Clm → List (List Fd) → Option (List (List Fd))
  | [], P => some P
  | m :: l, P => if m.ok then (match takeF b c m.x m.want P with
    | none => none
    | some R => runC b c l R) else none

theorem runC_all (b : Rb) (c : Ca) : ∀ (l : List Cd) (P : List (List Fd)), runC b c (l.map fun x => ⟨x, true, true⟩) P = takeAll b c l P
  | [], P => rfl
  | x :: l, P => by
    rw [List.map_cons, runC, takeAll]
    simp only [if_true]
    cases takeF b c x true P with
    | none => rfl
    | some R => exact runC_all b c l R
theorem runC_fails (b : Rb) (c : Ca) (E : List Clm) : ∀ (rs : List Ru) (ks : List Int) (P : List (List Fd)), runC b c (claimsF rs ks E) P = (match takeFails b c rs ks P with
    | none => none
    | some R => runC b c E R)
  | [], ks, P => by rw [claimsF, takeFails] <;> simp
  | r :: rs, [], P => by rw [claimsF, takeFails] <;> simp
  | r :: rs, k :: ks, P => by
    rw [claimsF, takeFails]
    cases isInB k 0 (r.cds.length - 1) with
    | false => rfl
    | true =>
      simp only [if_true]
      rw [runC]
      simp only [if_true]
      cases takeF b c (r.cds.getD k.toNat default) false P with
      | none => rfl
      | some R => exact runC_fails b c E rs ks R

/-- Check, in the words of its loop. -/
theorem checkF_run (f : Fl) (b : Rb) (c : Ca) (x : Dn) (hb : c.back = false) (hr : x.rule = -1 ∨ isInB x.rule 0 (f.rus.length - 1) = true) (hl : (x.fails.length : Int) = if x.rule = -1 then (f.rus.length : Int) else x.rule)
    (ha : x.act = if x.rule = -1 then f.dfl else (f.rus.getD x.rule.toNat default).act) : checkF f b c x = decide (runC b c (claimsL f x) x.prfs = some []) := by
  unfold checkF claimsL
  rw [hb, runC_fails]
  by_cases h1 : x.rule = -1
  · simp only [h1, if_true] at hl ha
    have hl2 : x.fails.length = f.rus.length := by omega
    simp only [Bool.false_eq_true, if_false, h1, if_true, hl2, ha, decide_true, Bool.true_and, claimsR]
    cases takeFails b c f.rus x.fails x.prfs with
    | none => rfl
    | some R => rfl
  · simp only [h1, if_false] at hl ha
    have h2 : isInB x.rule 0 (f.rus.length - 1) = true := hr.resolve_left h1
    simp only [Bool.false_eq_true, if_false, h1, h2, hl, ha, decide_true, Bool.true_and, claimsR, runC_all]
    cases takeFails b c f.rus x.fails x.prfs with
    | none => rfl
    | some R => rfl

end Go.Proofs.YtahfpadaoobkfaaGreatDoor

/-
  filter: the iterator over what a decision claims.
-/
namespace Go.Proofs.YtahfpadaoobkfaaGreatDoor
open Go.RowKit Go.Shelf Go.Lib

attribute [local go_sem] Oper.semAt_some

/-- How a claim is handed on. -/
abbrev clmE (m : Clm) : Array Value := #[.agg #[.int .i64 m.x.kind, .int .i64 m.x.lo, .int .i64 m.x.hi, .bool m.x.neg, .bool m.want], .bool m.ok]

/-- What the iterator reads. -/
structure ClAt (D : De) (bx bp : Nat) (act rule : Int) (vF vP : Value) (F : List Int) (w : World) : Prop where
  de : DeAt D w
  box : w.heap[bx]? = some (.cells #[.int .i64 act, .int .i64 rule, vF, vP] 75 (0, 0))
  ptr : w.heap[bp]? = some (.cells #[.pointer (some ⟨D.bd, 0, none⟩)] 134 (0, 0))
  fails : IntsAt w vF F
theorem ClAt.same {D : De} {bx bp : Nat} {act rule : Int} {vF vP : Value} {F : List Int} {w w' : World} (h : ClAt D bx bp act rule vF vP F w) (hf : Fr [] w w') : ClAt D bx bp act rule vF vP F w' := ⟨h.de.same hf, hf.keep h.box (by simp), hf.keep h.ptr (by simp), h.fails.same hf⟩

/-- What a round keeps: what lies below n, but one block. -/
structure KpB (n bq : Nat) (A B : World) : Prop where
  os : B.os = A.os
  tape : B.tape = A.tape
  output : B.output = A.output
  size : A.heap.size ≤ B.heap.size
  block : ∀ k, k < n → k ≠ bq → B.heap[k]? = A.heap[k]?
theorem KpB.trans {n bq : Nat} {A B C : World} (h : KpB n bq A B) (k : KpB n bq B C) : KpB n bq A C := ⟨k.os.trans h.os, k.tape.trans h.tape, k.output.trans h.output, Nat.le_trans h.size k.size, fun i hi hn => (k.block i hi hn).trans (h.block i hi hn)⟩
theorem KpB.of {n bq : Nat} {A B : World} (h : Fr [bq] A B) (hn : n ≤ A.heap.size) : KpB n bq A B := ⟨h.os, h.tape, h.output, h.size, fun k hk hb => h.block k (Nat.lt_of_lt_of_le hk hn) (by simpa using hb)⟩
theorem KpB.fr {bq : Nat} {w A B : World} (h : Fr [bq] w A) (k : KpB w.heap.size bq A B) : Fr [bq] w B := ⟨k.os.trans h.os, k.tape.trans h.tape, k.output.trans h.output, Nat.le_trans h.size k.size, fun i hi hn => (k.block i hi (by simpa using hn)).trans (h.block i hi hn)⟩

theorem claimsF_nil (rs : List Ru) (E : List Clm) : claimsF rs [] E = E := by cases rs <;> rfl

set_option maxRecDepth 100000 in
set_option maxHeartbeats 4000000 in
theorem claims1_in (n : Nat) (l : Nat) (D : De) (bx bp : Nat) (act rule : Int) (vF vP : Value) (F : List Int) (x : Dn) (hxF : x.fails = F) (hxr : x.rule = rule) (W0 : World) (bq : Nat) (h : ∀ W, Fr [bq] W0 W → ClAt D bx bp act rule vF vP F W) (hFl : F.length ≤ D.ys.length) (hr : rule = -1 ∨ isInB rule 0 (D.ys.length - 1) = true)
    (J Jx : List Clm → World → Prop)
    (hY : ∀ pre m W, J pre W → pre ++ [m] <+: claimsL D.f x → YieldAt Fence.wide (n - 1) Tryz.prog l (clmE m) W fun e W' =>
      (e = .returned (.bool true) ∧ J (pre ++ [m]) W' ∧ KpB W0.heap.size bq W W') ∨ (e = .returned (.bool false) ∧ Jx (pre ++ [m]) W'))
    (hJ : ∀ s A B, J s A → Fr [] A B → J s B)
    (W : World) (hW : Below W0.heap.size W0 W) (h0 : J [] W) :
    CallsIn Fence.wide n Tryz.prog 96 #[.func (.yield l) #[] #[], .pointer (some ⟨bx, 0, none⟩), .pointer (some ⟨bp, 0, none⟩)] W fun e W' => (∃ v, e = .returned v) ∧
      ((∃ ys, ys = claimsL D.f x ∧ J ys W') ∨ (∃ pre, pre <+: claimsL D.f x ∧ Jx pre W')) := by
  have HC := Lib.hid h
  have HR := Lib.hid hr
  have HY := Lib.hid hY
  have HJ := Lib.hid hJ
  have HL : Hid (claimsL D.f x = claimsF D.f.rus F (claimsR D.f rule)) := Lib.hid (by unfold claimsL; rw [hxF, hxr])
  have HE := Lib.hid (h W0 (Fr.refl _ _)).de.fl.eq
  have HW := Lib.hid ((Fr.of_below [] hW).mono (fp2 := [bq]) (by simp))
  have HJ0 := Lib.hid h0
  obtain ⟨aF, pF, rfl⟩ := (h W0 (Fr.refl _ _)).fails.val
  have hFn := (h W0 (Fr.refl _ _)).fails.len
  clear h hr hY hJ hxF hxr hW h0
  refine callsIn_of_wp Tryz.func96 rfl trivial ?_ rfl
  simp only [Tryz.ntmps96, List.size_toArray, List.length_cons, List.length_nil, Nat.reduceAdd, Nat.reduceSub, Array.replicate_succ, Array.replicate_zero, List.push_toArray, List.append_toArray, List.nil_append, List.cons_append]
  have B0 := (HC.out _ HW.out).box
  have c2 : W.cell? ⟨bx, 2, none⟩ = some (.slice aF F.length pF) := cell_of_blk B0 2
  clear B0
  gi_wp2
  clear c2
  gi_loopw [12] (fun s wr => ∃ (i : Nat) (pre : List Clm), i ≤ F.length ∧ s = .int .i64 i ∧ pre.length = i ∧ Hid (Fr [bq] W0 wr) ∧ Hid (J pre wr) ∧ Hid (claimsL D.f x = pre ++ claimsF (D.f.rus.drop i) (F.drop i) (claimsR D.f rule))) (fun s _ => F.length - (intOf s).toNat)
  case atStart => exact ⟨0, [], Nat.zero_le _, rfl, rfl, HW, HJ0, Lib.hid (by rw [HL.out]; rfl)⟩
  case round =>
    obtain ⟨i, pre, hi, rfl, hpi, HF, HP, HQ⟩ := hrel
    have HCr := Lib.hid (HC.out _ HF.out)
    have HPI := Lib.hid hpi
    clear hpi
    by_cases hlt : i < F.length
    · have hiy : i < D.ys.length := by omega
      obtain ⟨fb, fo, hv, hcf⟩ := HCr.out.fails.at_ (by omega)
      cases hv
      have e0 := hcf i (.int .i64 F[i]) (by simp [intC, hlt])
      obtain ⟨rb, ro, rcap, hv, hrc⟩ := ruRow_cells HCr.out.de.fl.sl i hiy
      have e1 := hrc 0 _ rfl
      have p0 := cell_of_blk HCr.out.ptr 0
      have p1 := cell_of_blk HCr.out.de.str 0
      rw [hv] at p1
      simp only [Nat.add_zero] at e1
      obtain ⟨al, pl, hvl⟩ := (HCr.out.de.fl.cds _ (List.getElem_mem hiy)).val
      have HCD := Lib.hid (HCr.out.de.fl.cds _ (List.getElem_mem hiy))
      have hir : i < D.f.rus.length := by rw [HE.out, List.length_map]; exact hiy
      have hrx : D.f.rus[i] = D.ys[i].x := by simp [HE.out]
      have HQ2 : Hid (claimsL D.f x = pre ++ (if isInB F[i] 0 (D.ys[i].x.cds.length - 1) then ⟨D.ys[i].x.cds.getD F[i].toNat default, false, true⟩ :: claimsF (D.f.rus.drop (i + 1)) (F.drop (i + 1)) (claimsR D.f rule) else [noClm])) := Lib.hid (by
        rw [HQ.out, List.drop_eq_getElem_cons hlt, List.drop_eq_getElem_cons hir, claimsF, hrx])
      rw [hvl] at HCD
      have HVL := Lib.hid hvl
      have HRV := Lib.hid hv
      generalize F[i] = fk at *
      generalize D.ys[i] = y at *
      obtain ⟨⟨cl, act'⟩, vl⟩ := y
      simp only at hvl HCD HQ2 e1
      subst hvl
      have hcl := HCD.out.len
      clear hcf hrc hv hrx hir HQ
      cases hin : isInB fk 0 ((cl.length : Int) - 1) with
      | false =>
        rw [hin] at HQ2
        have HIN := Lib.hid hin
        have hcl1 : claimsL D.f x = pre ++ [noClm] := HQ2.out
        obtain ⟨fn, tmps, assign, body, hy, hR⟩ := HY.out pre noClm wr HP.out (by rw [hcl1]; exact List.prefix_refl _)
        dsimp only [clmE, noClm] at hy
        have HRR := Lib.hid hR
        have HCL := Lib.hid hcl1
        clear hin hR hcl1
        gi_wp2
        refine ⟨trivial, fun hh => (by cases hh), ?_⟩
        refine (callsIn_wide.2 (fIsIn_c _ _ _ _)).mono ?_
        rintro e w' ⟨rfl, rfl⟩
        rw [HIN.out]
        gi_wp2
        refine ⟨fun hh => (by cases hh), ?_⟩
        refine HRR.out.mono ?_
        rintro e W3 (⟨rfl, hJ3, hk3⟩ | ⟨rfl, hJx3⟩)
        · gi_wp2
          refine bodyPost_ret (results_none rfl _ _ _) rfl ?_
          exact ⟨⟨_, rfl⟩, .inl ⟨_, HCL.out.symm, hJ3⟩⟩
        · gi_wp2
          refine bodyPost_ret (results_none rfl _ _ _) rfl ?_
          exact ⟨⟨_, rfl⟩, .inr ⟨_, by rw [HCL.out]; exact List.prefix_refl _, hJx3⟩⟩
      | true =>
        rw [hin] at HQ2
        simp only [if_true] at HQ2
        have HIN := Lib.hid hin
        have hb := isInB_iff.1 hin
        obtain ⟨k, rfl⟩ := Int.eq_ofNat_of_zero_le hb.1
        have hk : k < cl.length := by omega
        rw [Int.toNat_natCast, List.getD_eq_getElem?_getD, List.getElem?_eq_getElem hk, Option.getD_some] at HQ2
        obtain ⟨cb, co, cc, hv, hc⟩ := cdRow_cells HCD.out k hk
        cases hv
        have q0 := hc 0 _ rfl
        have q1 := hc 1 _ rfl
        have q2 := hc 2 _ rfl
        have q3 := hc 3 _ rfl
        simp only [Nat.add_zero] at q0 q1 q2 q3
        obtain ⟨fn, tmps, assign, body, hy, hR⟩ := HY.out pre ⟨cl[k], false, true⟩ wr HP.out (by rw [HQ2.out]; exact ⟨claimsF (D.f.rus.drop (i + 1)) (F.drop (i + 1)) (claimsR D.f rule), by simp⟩)
        generalize cl[k] = y at *
        obtain ⟨yk, yl, yh, yn⟩ := y
        simp only at q0 q1 q2 q3
        dsimp only [clmE] at hy
        have HRR := Lib.hid hR
        clear hin hR hc hb
        gi_wp2
        refine ⟨trivial, fun hh => (by cases hh), ?_⟩
        refine (callsIn_wide.2 (fIsIn_c _ _ _ _)).mono ?_
        rintro e w' ⟨rfl, rfl⟩
        rw [HIN.out]
        gi_wp2
        refine ⟨fun hh => (by cases hh), ?_⟩
        refine HRR.out.mono ?_
        rintro e W3 (⟨rfl, hJ3, hk3⟩ | ⟨rfl, hJx3⟩)
        · have HF3 := Lib.hid (KpB.fr HF.out hk3)
          have HJ3 := Lib.hid hJ3
          clear hk3 hJ3 q0 q1 q2 q3 e0 e1 p0 p1
          gi_wp2
          go_roundw
          case rel => exact ⟨i + 1, _, by omega, by go_num, by rw [List.length_append, HPI.out]; rfl, HF3, HJ3, Lib.hid (by rw [HQ2.out, List.append_assoc]; rfl)⟩
          case measure => simp [intOf]; omega
        · gi_wp2
          refine bodyPost_ret (results_none rfl _ _ _) rfl ?_
          exact ⟨⟨_, rfl⟩, .inr ⟨_, by rw [HQ2.out]; exact ⟨claimsF (D.f.rus.drop (i + 1)) (F.drop (i + 1)) (claimsR D.f rule), by simp⟩, hJx3⟩⟩
    · obtain rfl : i = F.length := by omega
      have HQ2 : Hid (claimsL D.f x = pre ++ claimsR D.f rule) := Lib.hid (by rw [HQ.out, List.drop_length, claimsF_nil])
      have k1 : wr.cell? ⟨bx, 1, none⟩ = some (.int .i64 rule) := cell_of_blk HCr.out.box 1
      by_cases hrl : rule = -1
      · have HQ3 : Hid (claimsL D.f x = pre) := Lib.hid (by rw [HQ2.out]; simp [claimsR, hrl])
        have hre : (rule == -1) = true := by simpa using hrl
        clear hrl
        gi_wp2
        refine bodyPost_ret (results_none rfl _ _ _) rfl ?_
        exact ⟨⟨_, rfl⟩, .inl ⟨_, HQ3.out.symm, HP.out⟩⟩
      · have hre : (rule == -1) = false := by simpa using hrl
        have hb := isInB_iff.1 (HR.out.resolve_left hrl)
        obtain ⟨m, rfl⟩ := Int.eq_ofNat_of_zero_le hb.1
        have hmy : m < D.ys.length := by omega
        obtain ⟨rb, ro, rcap, hv, hrc⟩ := ruRow_cells HCr.out.de.fl.sl m hmy
        have e1 := hrc 0 _ rfl
        have p0 := cell_of_blk HCr.out.ptr 0
        have p1 := cell_of_blk HCr.out.de.str 0
        rw [hv] at p1
        simp only [Nat.add_zero] at e1
        obtain ⟨al, pl, hvl⟩ := (HCr.out.de.fl.cds _ (List.getElem_mem hmy)).val
        have HCD := Lib.hid fun W' (hf : Fr [bq] W0 W') => (HC.out W' hf).de.fl.cds _ (List.getElem_mem hmy)
        have hmr : m < D.f.rus.length := by rw [HE.out, List.length_map]; exact hmy
        have hrx : D.f.rus[m] = D.ys[m].x := by simp [HE.out]
        have HQ3 : Hid (claimsL D.f x = pre ++ D.ys[m].x.cds.map fun x => ⟨x, true, true⟩) := Lib.hid (by
          rw [HQ2.out, claimsR, if_neg hrl, Int.toNat_natCast, List.getD_eq_getElem?_getD, List.getElem?_eq_getElem hmr, Option.getD_some, hrx])
        rw [hvl] at HCD
        generalize D.ys[m] = y at *
        obtain ⟨⟨cl, act'⟩, vl⟩ := y
        simp only at hvl HCD HQ3 e1
        subst hvl
        have hcl := (HCD.out _ HF.out).len
        clear hrc hv hrx hmr hrl hb HQ HQ2
        gi_wp2
        refine wpIn_wide.2 ?_
        refine reg_mix (Fr [] wr) [0, 1, 2, 3, 4, 5, 6, 7, 8, 9, 10, 11] (by kernel_rfl) (by kernel_rfl) (by kernel_rfl) rfl (Fr.drew _ _) ?_
        have FC : Fr [] wr wr.drew := Fr.drew _ _
        generalize wr.drew = WC at FC ⊢
        iterate 12 (refine mix_take1 (v := ?_) rfl rfl rfl rfl (fun w hS => ?_) ?_; rotate_left; (focus (have s0 := hS.cel e1 (by simp); have s1 := hS.cel p0 (by simp); have s2 := hS.cel p1 (by simp); have s3 := hS.cel k1 (by simp); clear hS; go_simp; rfl)); simp only [List.setIfInBounds_toArray, List.set_cons_succ, List.set_cons_zero])
        refine mix_end ?_
        have HFC := Lib.hid (HF.out.trans (FC.mono (fp2 := [bq]) (by simp)))
        have HPC := Lib.hid (HJ.out _ _ _ HP.out FC)
        clear FC e1 p0 p1 k1 hre HCr
        gi_wp2
        gi_loopw [58] (fun s wq => ∃ k : Nat, k ≤ cl.length ∧ s = .int .i64 k ∧ Hid (Fr [bq] W0 wq) ∧ Hid (J (pre ++ (cl.take k).map fun x => ⟨x, true, true⟩) wq)) (fun s _ => cl.length - (intOf s).toNat)
        case atStart => exact ⟨0, Nat.zero_le _, rfl, HFC, Lib.hid (by simpa using HPC.out)⟩
        case round =>
          obtain ⟨k, hk, rfl, HF2, HP2⟩ := hrel
          rename World => wq
          by_cases hlt : k < cl.length
          · obtain ⟨cb, co, cc, hv, hc⟩ := cdRow_cells (HCD.out _ HF2.out) k hlt
            cases hv
            have q0 := hc 0 _ rfl
            have q1 := hc 1 _ rfl
            have q2 := hc 2 _ rfl
            have q3 := hc 3 _ rfl
            simp only [Nat.add_zero] at q0 q1 q2 q3
            have HT : Hid ((cl.take (k + 1)).map (fun x => (⟨x, true, true⟩ : Clm)) = (cl.take k).map (fun x => (⟨x, true, true⟩ : Clm)) ++ [⟨cl[k], true, true⟩]) := Lib.hid (by rw [List.take_succ_eq_append_getElem hlt, List.map_append]; rfl)
            have HPF : Hid ((pre ++ (cl.take k).map fun x => (⟨x, true, true⟩ : Clm)) ++ [⟨cl[k], true, true⟩] <+: claimsL D.f x) := Lib.hid (by
              rw [HQ3.out, List.append_assoc, ← HT.out]
              refine (List.prefix_append_right_inj _).2 ?_
              exact (List.take_prefix _ _).map _)
            obtain ⟨fn, tmps, assign, body, hy, hR⟩ := HY.out _ ⟨cl[k], true, true⟩ _ (HJ.out _ _ _ HP2.out (Fr.alloc [] wq (.cells #[.int .i64 cl[k].kind, .int .i64 cl[k].lo, .int .i64 cl[k].hi, .bool cl[k].neg] 62))) HPF.out
            generalize cl[k] = y at *
            obtain ⟨yk, yl, yh, yn⟩ := y
            simp only at q0 q1 q2 q3 hy hR
            dsimp only [clmE] at hy
            have HRR := Lib.hid hR
            have HFA := Lib.hid (HF2.out.trans (Fr.alloc [bq] wq (.cells #[.int .i64 yk, .int .i64 yl, .int .i64 yh, .bool yn] 62)))
            clear hR hc
            gi_wp2
            refine ⟨fun hh => (by cases hh), ?_⟩
            refine HRR.out.mono ?_
            rintro e W3 (⟨rfl, hJ3, hk3⟩ | ⟨rfl, hJx3⟩)
            · have HF3 := Lib.hid (KpB.fr HFA.out hk3)
              have HJ3 := Lib.hid hJ3
              clear hk3 hJ3 q0 q1 q2 q3
              gi_wp2
              go_roundw
              case rel => exact ⟨k + 1, by omega, by go_num, HF3, by rw [HT.out, ← List.append_assoc]; exact HJ3⟩
              case measure => simp [intOf]; omega
            · gi_wp2
              refine bodyPost_ret (results_none rfl _ _ _) rfl ?_
              exact ⟨⟨_, rfl⟩, .inr ⟨_, HPF.out, hJx3⟩⟩
          · obtain rfl : k = cl.length := by omega
            gi_wp2
            go_end0
            exact ⟨⟨_, rfl⟩, .inl ⟨_, by rw [List.take_length]; exact HQ3.out.symm, HP2.out⟩⟩

end Go.Proofs.YtahfpadaoobkfaaGreatDoor
