/-
  The reference's attestations: Sealed.
-/
import Derived.Test.YtahfpadaoobkfaaGreatDoorQAtWi
import Derived.Test.YtahfpadaoobkfaaGreatDoorQS24
import Derived.Deep.CutBlock
import Derived.Deep.DeepCutAuto
namespace Go.Proofs.YtahfpadaoobkfaaGreatDoor
open Go.RowKit Go.Lib

/-- What the first region's operations have made. -/
def SeP (N : Nat) (d : Dl) (l : List Hd) (i : Nat) (v : Value) (W : World) : Prop := match i with
  | 2 => ∃ g, v = .slice (some ⟨g, 0, none⟩) 0 0 ∧ W.heap[g]? = some (.cells #[] 60 (0, 0)) ∧ N ≤ g
  | 5 => W.ownsRow 0 60 3 v l.length (l.flatMap hdC) ∧ ∀ g, v.ownBlock = some g → N ≤ g
  | 6 => ∃ u, v = atV d u ∧ W.ownsRow 0 60 3 u l.length (l.flatMap hdC) ∧ ∀ g, u.ownBlock = some g → N ≤ g
  | 7 => ∃ g, v = .pointer (some ⟨g, 0, none⟩) ∧ W.heap[g]? = some (.cells #[.int .i64 0, .int .i64 0, .int .i64 0, .int .i64 0, .slice none 0 0] 44 (0, 0)) ∧ N ≤ g
  | _ => True
theorem SeP.same {N : Nat} {d : Dl} {l : List Hd} {W W' : World} (hf : Fr [] W W') : ∀ (j : Nat) (u : Value), SeP N d l j u W → SeP N d l j u W' := by
  intro j u h
  unfold SeP at h ⊢
  split at h
  · obtain ⟨g, h1, h2, h3⟩ := h; exact ⟨g, h1, hf.keep h2 (by simp), h3⟩
  · exact ⟨row_fr h.1 hf (by simp), h.2⟩
  · obtain ⟨u, h1, h2, h3⟩ := h; exact ⟨u, h1, row_fr h2 hf (by simp), h3⟩
  · obtain ⟨g, h1, h2, h3⟩ := h; exact ⟨g, h1, hf.keep h2 (by simp), h3⟩
  · trivial

theorem hdRow0 {w : World} {g n cap : Nat} {l : List Hd} (h : HdsAt w (.slice (some ⟨g, 0, none⟩) n cap) l) (k : Nat) (hk : k < l.length) (j : Nat) (u : Value) (hu : (hdC l[k])[j]? = some u) : w.cell? ⟨g, k * 3 + j, none⟩ = some u := by
  obtain ⟨b, off, c, hv, hc⟩ := hdRow_cells h k hk
  simp only [Value.slice.injEq, Option.some.injEq, Addr.mk.injEq] at hv
  obtain ⟨⟨rfl, rfl, _⟩, _⟩ := hv
  have := hc j u hu
  rwa [Nat.zero_add] at this

set_option maxRecDepth 100000 in
set_option maxHeartbeats 8000000 in
theorem sealed25_c (d : Dl) (v : Value) (l : List Hd) (at_ level : Int) (w : World) (hsrc : SrcAt w v l.length (l.flatMap hdC)) (hf : fmB ⟨d, l⟩ = true) (ha : I64 at_) (hlv : I64 level) :
    Calls Tryz.prog 9 #[atV d v, .int .i64 at_, .int .i64 level] w fun e w' => ∃ v' l' k, e = .returned (.tuple #[atV d v', .int .i64 k]) ∧ fmB ⟨d, l'⟩ = true ∧ HdY w w' v' l' := by
  obtain ⟨hdl, hln, hgo⟩ := fmB_parts hf
  simp only at hln hdl hgo
  have HD := Lib.hid hdl; have HG := Lib.hid hgo
  have HS := Lib.hid hsrc
  have hv : ∃ a cap, v = .slice a l.length cap := by
    rcases hsrc.form with ⟨rfl, h2, _⟩ | ⟨ad, c, rfl, _⟩
    · exact ⟨none, 0, by rw [h2]⟩
    · exact ⟨_, _, rfl⟩
  obtain ⟨va, vc, rfl⟩ := hv
  obtain ⟨d0, d1, d2, d3⟩ := d
  have CP := Lib.hid fun W => pick25_c at_ l.length W ha (by omega) (by omega)
  have hp := pickI_bound at_ l.length (by omega)
  generalize pickI at_ l.length = pk at *
  obtain ⟨k, rfl⟩ := Int.eq_ofNat_of_zero_le hp.1
  have hkl : k < l.length := by omega
  have HLV := Lib.hid hlv
  have hl8 : l.length ≤ 8 := by omega
  clear hf hdl hgo hsrc hln ha hp hlv
  go_enter Tryz.func9, Tryz.ntmps9
  go_wp2_with fail
  have A2 := alloc2' w (.cells #[.int .i64 d0, .int .i64 d1, .int .i64 d2, .int .i64 d3, .slice va l.length vc] 44) (.cells #[.int .i64 0, .int .i64 0, .int .i64 0, .int .i64 0, .slice none 0 0] 44)
  have F2 := (Fr.alloc [] w (.cells #[.int .i64 d0, .int .i64 d1, .int .i64 d2, .int .i64 d3, .slice va l.length vc] 44)).trans (Fr.alloc [] _ (.cells #[.int .i64 0, .int .i64 0, .int .i64 0, .int .i64 0, .slice none 0 0] 44))
  have hz2 : ((w.alloc (.cells #[.int .i64 d0, .int .i64 d1, .int .i64 d2, .int .i64 d3, .slice va l.length vc] 44)).alloc (.cells #[.int .i64 0, .int .i64 0, .int .i64 0, .int .i64 0, .slice none 0 0] 44)).heap.size = w.heap.size + 2 := by simp
  generalize (w.alloc (.cells #[.int .i64 d0, .int .i64 d1, .int .i64 d2, .int .i64 d3, .slice va l.length vc] 44)).alloc (.cells #[.int .i64 0, .int .i64 0, .int .i64 0, .int .i64 0, .slice none 0 0] 44) = W0 at *
  have HZ := Lib.hid hz2
  have S0 : W0.drew.heap[w.heap.size]? = some (.cells #[.int .i64 d0, .int .i64 d1, .int .i64 d2, .int .i64 d3, .slice va l.length vc] 44 (0, 0)) ∧ W0.drew.heap[w.heap.size + 1]? = some (.cells #[.int .i64 0, .int .i64 0, .int .i64 0, .int .i64 0, .slice none 0 0] 44 (0, 0)) ∧ Fr [] W0 W0.drew := ⟨(Fr.drew [] W0).keep A2.1 (by simp), (Fr.drew [] W0).keep A2.2 (by simp), Fr.drew _ _⟩
  have HF2 := Lib.hid F2
  clear A2 F2 hz2
  refine reg_invC (C := [(2, 5)]) (B := []) (fun W => W.heap[w.heap.size]? = some (.cells #[.int .i64 d0, .int .i64 d1, .int .i64 d2, .int .i64 d3, .slice va l.length vc] 44 (0, 0)) ∧ W.heap[w.heap.size + 1]? = some (.cells #[.int .i64 0, .int .i64 0, .int .i64 0, .int .i64 0, .slice none 0 0] 44 (0, 0)) ∧ Fr [] W0 W) 8 [0, 1, 3, 4] [(2, []), (5, [2]), (6, [5]), (7, [])] (by kernel_rfl) (by kernel_rfl) (by kernel_rfl) (by kernel_rfl) (by kernel_rfl) ?_
  iterate 4 (refine tk_take (v := ?_) rfl rfl rfl S0 (fun w hS => ?_) ?_; rotate_left; (focus (have s0 := cell_of_blk hS.1 0; have s1 := cell_of_blk hS.1 1; have s2 := cell_of_blk hS.1 2; have s3 := cell_of_blk hS.1 3; have s4 := cell_of_blk hS.1 4; go_simp; rfl)); simp only [List.setIfInBounds_toArray, List.set_cons_succ, List.set_cons_zero])
  have hN : ∀ W : World, Fr [] W0 W → w.heap.size + 2 ≤ W.heap.size := fun W h => by have := h.size; have := HZ.out; omega
  refine invC_start [(2, 14), (5, 17), (6, 18), (7, 8)] (SeP (w.heap.size + 2) ⟨d0, d1, d2, d3⟩ l) (by decide) S0 ⟨fun g W hS hD => ?_, fun g W hS hD => ?_, fun g W hS hD => ?_, fun g W hS hD => ?_, trivial⟩ (fun g W hS hD => ?_)
  · refine invC_op rfl rfl (fun K hK => ?_)
    simp only [putG, putT, List.setIfInBounds_toArray, List.set_cons_succ, List.set_cons_zero] at hK ⊢
    have fa := Fr.alloc [] W (.cells #[] 60)
    have hn := hN W hS.2.2
    go_simp
    exact hK _ _ ⟨fa.keep hS.1 (by simp), fa.keep hS.2.1 (by simp), hS.2.2.trans fa⟩ ⟨_, rfl, heap_alloc_new _ _, hn⟩ (fun j u _ _ _ h => h.same fa)
  · obtain ⟨g2, e2, h2, n2⟩ := hD 2 (by simp)
    refine invC_op rfl rfl (fun K hK => ?_)
    simp only [putG, putT, List.setIfInBounds_toArray, List.set_cons_succ, List.set_cons_zero] at hK ⊢
    refine wp_append_freshW (.tmp 14) (.tmp 16) 42 60 _ 3 32 rfl Tryz.underlying42 infoHdT rfl (by decide) g2 e2 h2 _ l.length _ rfl (HS.out.same (HF2.out.trans hS.2.2)) (by rw [flat_len (enc := hdC) (k := 3) hdC_len]) (hds_one l) (by omega) (by omega) ?_
    intro v' w' r1 f1 b1
    have hn := hN W hS.2.2
    exact hK v' w' ⟨f1.keep hS.1 (by simp), f1.keep hS.2.1 (by simp), hS.2.2.trans f1⟩ ⟨r1, fun b hb => by
      rcases b1 b hb with rfl | hb
      · exact n2
      · omega⟩ (fun j u _ _ _ h => h.same f1)
  · have h5 := hD 5 (by simp)
    refine invC_op rfl rfl (fun K hK => ?_)
    simp only [putG, putT, List.setIfInBounds_toArray, List.set_cons_succ, List.set_cons_zero] at hK ⊢
    simp only [upG, Nat.reduceEqDiff, if_false, if_true] at hK
    clear hD
    generalize g 5 = x5 at *
    obtain ⟨a5, p5, rfl⟩ := (sl_of_row h5.1).val
    go_simp
    exact hK _ _ hS ⟨_, rfl, h5⟩ (fun j u _ _ _ h => h)
  · refine invC_op rfl rfl (fun K hK => ?_)
    simp only [putG, putT, List.setIfInBounds_toArray, List.set_cons_succ, List.set_cons_zero] at hK ⊢
    have fa := Fr.alloc [] W (.cells #[.int .i64 0, .int .i64 0, .int .i64 0, .int .i64 0, .slice none 0 0] 44)
    have hn := hN W hS.2.2
    go_simp
    exact hK _ _ ⟨fa.keep hS.1 (by simp), fa.keep hS.2.1 (by simp), hS.2.2.trans fa⟩ ⟨_, rfl, heap_alloc_new _ _, hn⟩ (fun j u _ _ _ h => h.same fa)
  · obtain ⟨u, e6, r6, n6⟩ := hD (6, [5]) (by simp) (by simp)
    obtain ⟨B, e7, hB, nB⟩ := hD (7, []) (by simp) (by simp)
    simp only at e6 e7
    refine inv_fin rfl rfl (fun K hK => ?_)
    simp only [putG, putT, List.setIfInBounds_toArray, List.set_cons_succ, List.set_cons_zero] at hK ⊢
    rw [e6, e7]
    obtain ⟨au, pu, rfl⟩ := (sl_of_row r6).val
    have t0 := cell_of_blk hB 0; have t1 := cell_of_blk hB 1; have t2 := cell_of_blk hB 2; have t3 := cell_of_blk hB 3; have t4 := cell_of_blk hB 4
    have u0 := free_of_blk hB 0; have u1 := free_of_blk hB 1; have u2 := free_of_blk hB 2; have u3 := free_of_blk hB 3; have u4 := free_of_blk hB 4
    go_simp
    try go_upon
    try go_simp
    obtain ⟨KS, FS⟩ := set5 hB (.int .i64 d0) (.int .i64 d1) (.int .i64 d2) (.int .i64 d3) (.slice au l.length pu)
    refine hK _ _ ?_
    clear hK K t0 t1 t2 t3 t4 u0 u1 u2 u3 u4 hD S0
    refine noPanic_nmZ ?_
    obtain ⟨gq, hau⟩ : ∃ gq, au = some ⟨gq, 0, none⟩ := by
      rcases r6.2 with ⟨h0, h1⟩ | ⟨gq, _, _, hv, _⟩
      · omega
      · cases hv; exact ⟨gq, rfl⟩
    subst hau
    have ngq := n6 gq rfl
    have hBq : B ≠ gq := fun e => row_box r6 hB (by decide) (by rw [e]; rfl)
    have hsz := HZ.out
    have FW2 := hS.2.2.step FS (fun i hi => .inr (by simp at hi; omega))
    have r2 := row_fr r6 FS (fun b hb hm => by rw [List.mem_singleton] at hm; subst hm; exact row_box r6 hB (by decide) hb)
    have Z2 := FS.keep hS.2.1 (by simp; omega)
    have HY : Hid (HdY W0 _ (.slice (some ⟨gq, 0, none⟩) l.length pu) l) := Lib.hid ⟨r2, fun b hb => by cases hb; show _ ≤ gq; omega, FW2⟩
    generalize (((((W.setCell ⟨B, 0, none⟩ (.int .i64 d0)).setCell ⟨B, 1, none⟩ (.int .i64 d1)).setCell ⟨B, 2, none⟩ (.int .i64 d2)).setCell ⟨B, 3, none⟩ (.int .i64 d3)).setCell ⟨B, 4, none⟩ (.slice (some ⟨gq, 0, none⟩) l.length pu)) = V at *
    have HKS := Lib.hid KS; have HZ2 := Lib.hid Z2
    have b4 := cell_of_blk KS 4
    generalize g 2 = u2 at *
    generalize g 5 = u5 at *
    clear hS hB e6 e7 r6 n6 r2 FS Z2 FW2 KS hN hsz
    -- @@B
    go_wp2_with fail
    refine (CP.out _).mono ?_
    rintro e w3 ⟨rfl, rfl⟩
    go_upto_if 25 with fail
    go_cut [10] from 25 to 32 (fun s W => ∃ mo : Int, s = .int .i64 mo ∧ Hid (if k = 0 then mo = 3 else mo = (l.getD (k - 1) default).lev) ∧ Hid (W = V))
    case first =>
      by_cases h0 : k = 0
      · have hq : decide (0 < k) = false := decide_eq_false (by omega)
        have H0 := Lib.hid h0
        rw [hq]
        clear h0 hq
        go_wp2_with fail
        go_meet
        case rel => exact ⟨3, rfl, Lib.hid (by rw [if_pos H0.out]), Lib.hid rfl⟩
      · have hq : decide (0 < k) = true := decide_eq_true (by omega)
        have hk1 : k - 1 < l.length := by omega
        have hij : ((k : Int) - 1) = ((k - 1 : Nat) : Int) := by omega
        have p1 := hdRow0 HY.out.at_ (k - 1) hk1 1 (.int .i64 l[k - 1].lev) rfl
        have HX : Hid ((l.getD (k - 1) default).lev = l[k - 1].lev) := Lib.hid (by rw [List.getD_eq_getElem?_getD, List.getElem?_eq_getElem hk1]; rfl)
        generalize l[k - 1].lev = z at *
        rw [hq]
        clear hq
        go_wp2_with fail
        go_meet
        case rel => exact ⟨z, rfl, Lib.hid (by rw [if_neg h0, HX.out]), Lib.hid rfl⟩
    case rest =>
      obtain ⟨mo, rfl, HMo, HW⟩ := hcut
      have hwe := HW.out.symm
      subst hwe
      rename_i K0 hK0
      refine hK0 _ _ ?_
      clear hK0 K0 HW
      go_upto_if 38 with fail
      go_cut [11] from 38 to 45 (fun s W => ∃ le : Int, s = .int .i64 le ∧ Hid (if k + 1 < l.length then le = (l.getD (k + 1) default).lev else le = 0) ∧ Hid (W = V))
      case first =>
        by_cases h0 : k + 1 < l.length
        · have hq : decide (k + 1 < l.length) = true := decide_eq_true h0
          have p1 := hdRow0 HY.out.at_ (k + 1) h0 1 (.int .i64 l[k + 1].lev) rfl
          have HX : Hid ((l.getD (k + 1) default).lev = l[k + 1].lev) := Lib.hid (by rw [List.getD_eq_getElem?_getD, List.getElem?_eq_getElem h0]; rfl)
          generalize l[k + 1].lev = z at *
          try rw [hq]
          go_wp2_with fail
          go_meet
          case rel => exact ⟨z, rfl, Lib.hid (by rw [if_pos h0, HX.out]), Lib.hid rfl⟩
        · have hq : decide (k + 1 < l.length) = false := decide_eq_false h0
          try rw [hq]
          go_wp2_with fail
          go_meet
          case rel => exact ⟨0, rfl, Lib.hid (by rw [if_neg h0]), Lib.hid rfl⟩
      case rest =>
        obtain ⟨le, rfl, HLe, HW⟩ := hcut
        have hwe := HW.out.symm
        subst hwe
        rename_i K0 hK0
        refine hK0 _ _ ?_
        clear hK0 K0 HW
        obtain ⟨hc1, hc2, hc3, hc4, hc5⟩ := fmGo_le l (-1) 3 HG.out _ (List.getElem_mem hkl)
        have hmo : l[k].lev ≤ mo ∧ mo ≤ 3 := by
          have h := HMo.out
          by_cases h0 : k = 0
          · rw [if_pos h0] at h; omega
          · rw [if_neg h0] at h
            have hk1 : k - 1 < l.length := by omega
            rw [List.getD_eq_getElem?_getD, List.getElem?_eq_getElem hk1, Option.getD_some] at h
            have h2 := (fmGo_at l (-1) 3 HG.out (k - 1) (by omega)).2
            have hkk : k - 1 + 1 = k := by omega
            simp only [hkk] at h2
            have h3 := fmGo_le l (-1) 3 HG.out _ (List.getElem_mem hk1)
            omega
        have hle : 0 ≤ le ∧ le ≤ l[k].lev := by
          have h := HLe.out
          by_cases h0 : k + 1 < l.length
          · rw [if_pos h0, List.getD_eq_getElem?_getD, List.getElem?_eq_getElem h0, Option.getD_some] at h
            have h2 := (fmGo_at l (-1) 3 HG.out k h0).2
            have h3 := fmGo_le l (-1) 3 HG.out _ (List.getElem_mem h0)
            omega
          · rw [if_neg h0] at h; omega
        have CP2 := Lib.hid fun W => pick25_c level (mo - le + 1) W HLV.out (by omega) (by omega)
        have hp2 := pickI_bound level (mo - le + 1) (by omega)
        generalize pickI level (mo - le + 1) = pp at *
        have HSET : Hid (∀ s : ByteArray, s.size = 32 → fmGo (-1) 3 (l.set k ⟨l[k].car, le + pp, s⟩) = true) := Lib.hid fun s hs => fmGo_set (le + pp) s (by omega) hs l (-1) 3 k hkl HG.out (by
            have h := HMo.out
            by_cases h0 : k = 0
            · rw [if_pos h0]; omega
            · rw [if_neg h0] at h ⊢; omega) (by
            have h := HLe.out
            by_cases h0 : k + 1 < l.length
            · rw [if_pos h0] at h ⊢; omega
            · rw [if_neg h0]; trivial)
        have hnl : 0 ≤ le + pp ∧ le + pp ≤ 3 := by omega
        have hmb : 0 ≤ le ∧ le ≤ mo ∧ mo ≤ 3 := by omega
        have b0 := cell_of_blk HKS.out 0; have b1 := cell_of_blk HKS.out 1; have b2 := cell_of_blk HKS.out 2; have b3 := cell_of_blk HKS.out 3
        have p0 := hdRow0 HY.out.at_ k hkl 0 (.int .i64 l[k].car) rfl
        simp only [Nat.add_zero] at p0
        obtain ⟨cur, hcur⟩ := row_blkH (g := gq) (cap := pu) HY.out.row rfl
        have y0 := free_of_blk hcur.1 (k * 3 + 1)
        obtain ⟨ov, y1⟩ : ∃ ov, V.cell? ⟨gq, k * 3 + 1, none⟩ = some ov := ⟨_, (cell_of_blk hcur.1 (k * 3 + 1)).trans (Array.getElem?_eq_getElem (by have := hcur.2; omega))⟩
        have hHL := HY.out.level rfl k hkl (le + pp)
        have FQ := Fr.setCell (fp := [gq]) (p := ⟨gq, k * 3 + 1, none⟩) V (.int .i64 (le + pp)) (by simp)
        have HB1 := Lib.hid (FQ.keep HKS.out (by simpa using hBq))
        have HZ1 := Lib.hid (FQ.keep HZ2.out (by simp; omega))
        have hkI : (k : Int) < l.length := by omega
        have HBND := Lib.hid (And.intro hc1 (And.intro hc2 (And.intro hc5 hnl)))
        obtain ⟨cm, hcm⟩ := Int.eq_ofNat_of_zero_le hc1
        have hcm7 : cm ≤ 7 := by omega
        rw [hcm] at p0
        have hcI : (cm : Int) < 8 := by omega
        have HCM := Lib.hid hcm
        clear hcur hc1 hc2 hc3 hc4 hc5 hmo HMo HLe hcm
        go_wp2_with fail
        refine reg_n (Fr [] V) 13 [.take 0, .take 1, .take 2, .take 3, .take 4, .take 5, .take 6, .take 7, .take 8, .one 9, .take 10, .take 11, .take 12, .one 13] (by kernel_rfl) (by kernel_rfl) (by kernel_rfl) rfl ?_
        have FC : Fr [] V V.drew := Fr.drew _ _
        have HLD : Hid (HdY W0 (V.drew.setCell ⟨gq, k * 3 + 1, none⟩ (.int .i64 (le + pp))) (.slice (some ⟨gq, 0, none⟩) l.length pu) (l.set k ⟨l[k].car, le + pp, l[k].sig⟩)) := Lib.hid ((HY.out.same FC).level rfl k hkl (le + pp))
        have HBD := Lib.hid (FC.keep HKS.out (by simp)); have HZD := Lib.hid (FC.keep HZ2.out (by simp))
        have y0 := free_of_blk (FC.keep (row_blkH (g := gq) (cap := pu) HY.out.row rfl).choose_spec.1 (by simp)) (k * 3 + 1)
        have y1 := FC.cel y1 (by simp)
        clear hHL FQ HB1 HZ1
        generalize V.drew = WC at *
        iterate 7 (refine n_take (v := ?_) rfl rfl rfl FC (fun w hS => ?_) ?_; rotate_left; (focus (have e0 := hS.cel b0 (by simp); have e1 := hS.cel b1 (by simp); have e2 := hS.cel b2 (by simp); have e3 := hS.cel b3 (by simp); have e4 := hS.cel b4 (by simp); have e5 := hS.cel p0 (by simp); clear hS; go_simp; (try rw [if_pos hkI]); (try rw [if_pos hcI]); rfl)); simp only [List.setIfInBounds_toArray, List.set_cons_succ, List.set_cons_zero])
        (refine n_take (v := ?_) rfl rfl rfl FC (fun w hS => ?_) ?_; rotate_left; (focus (have e0 := hS.cel b0 (by simp); have e1 := hS.cel b1 (by simp); have e2 := hS.cel b2 (by simp); have e3 := hS.cel b3 (by simp); have e4 := hS.cel b4 (by simp); have e5 := hS.cel p0 (by simp); clear hS; go_simp; (try rw [if_pos hkI]); (try rw [if_pos hcI]); first | rw [IntWalk.i64_in (mo - le) (by omega)] | rfl)); simp only [List.setIfInBounds_toArray, List.set_cons_succ, List.set_cons_zero])
        (refine n_take (v := ?_) rfl rfl rfl FC (fun w hS => ?_) ?_; rotate_left; (focus (have e0 := hS.cel b0 (by simp); have e1 := hS.cel b1 (by simp); have e2 := hS.cel b2 (by simp); have e3 := hS.cel b3 (by simp); have e4 := hS.cel b4 (by simp); have e5 := hS.cel p0 (by simp); clear hS; go_simp; (try rw [if_pos hkI]); (try rw [if_pos hcI]); first | rw [IntWalk.i64_in (mo - le + 1) (by omega)] | rfl)); simp only [List.setIfInBounds_toArray, List.set_cons_succ, List.set_cons_zero])
        refine n_one rfl rfl (fun K hK => ?_)
        go_simp
        refine (CP2.out _).mono ?_
        rintro e w4 ⟨rfl, rfl⟩
        refine hK _ _ FC ?_
        clear hK K
        try simp only [Act.put, List.setIfInBounds_toArray, List.set_cons_succ, List.set_cons_zero]
        (refine n_take (v := ?_) rfl rfl rfl FC (fun w hS => ?_) ?_; rotate_left; (focus (clear hS; go_simp; (try rw [if_pos hkI]); (try rw [if_pos hcI]); first | rw [IntWalk.i64_in (le + pp) (by omega)] | rfl)); simp only [List.setIfInBounds_toArray, List.set_cons_succ, List.set_cons_zero])
        iterate 2 (refine n_take (v := ?_) rfl rfl rfl FC (fun w hS => ?_) ?_; rotate_left; (focus (clear hS; go_simp; (try rw [if_pos hkI]); (try rw [if_pos hcI]); rfl)); simp only [List.setIfInBounds_toArray, List.set_cons_succ, List.set_cons_zero])
        refine n_last (o := ⟨none, _, _, _, _, _⟩) rfl rfl (fun K hK => ?_)
        go_simp
        try go_upon
        try go_simp
        have FQ := Fr.setCell (fp := [gq]) (p := ⟨gq, k * 3 + 1, none⟩) WC (.int .i64 (le + pp)) (by simp)
        have HB1 := Lib.hid (FQ.keep HBD.out (by simpa using hBq))
        have HZ1 := Lib.hid (FQ.keep HZD.out (by simp; omega))
        refine hK _ _ ?_
        clear hK K y0 y1 b0 b1 b2 b3 b4 p0 FQ FC
        generalize WC.setCell ⟨gq, k * 3 + 1, none⟩ (.int .i64 (le + pp)) = V1 at *
        refine noPanic_nmZ ?_
        -- @@T
        obtain ⟨L, hL⟩ : ∃ L, L = l.set k ⟨l[k].car, le + pp, l[k].sig⟩ := ⟨_, rfl⟩
        have hLl : L.length = l.length := by rw [hL]; simp
        have hkL : k < L.length := by omega
        have hLk : L[k] = ⟨(cm : Int), le + pp, l[k].sig⟩ := by simp only [hL, List.getElem_set_self, HCM.out]
        have hGL : fmGo (-1) 3 L = true := by rw [hL]; exact HSET.out _ HBND.out.2.2.1
        have HYL : Hid (HdY W0 V1 (.slice (some ⟨gq, 0, none⟩) l.length pu) L) := Lib.hid (by rw [hL]; exact HLD.out)
        have hset : ∀ s, L.set k ⟨(cm : Int), le + pp, s⟩ = l.set k ⟨l[k].car, le + pp, s⟩ := fun s => by rw [hL, List.set_set, HCM.out]
        have HSETL := Lib.hid hset
        obtain ⟨bf, hbf⟩ : ∃ bf, bf = if k = 0 then ByteArray.empty else (L.getD (k - 1) default).sig := ⟨_, rfl⟩
        have hbz : bf.size ≤ 1000 := by
          rw [hbf]
          split
          · decide
          · have hm1 : k - 1 < L.length := by omega
            rw [List.getD_eq_getElem?_getD, List.getElem?_eq_getElem hm1, Option.getD_some]
            have := (fmGo_le L (-1) 3 hGL _ (List.getElem_mem hm1)).2.2.2.2
            omega
        have CC := Lib.hid fun W (hf : Fr [] V1 W) => content25_c ⟨d0, d1, d2, d3⟩ (.slice (some ⟨gq, 0, none⟩) l.length pu) L k W (HYL.out.at_.same hf) hkL (by omega) bf hbf HD.out (by rw [hLk]; simp only; omega) (by rw [hLk]; exact hnl) hbz
        rw [hLk] at CC
        have hcl : (str (cntM ⟨d0, d1, d2, d3⟩ k ⟨(cm : Int), le + pp, l[k].sig⟩ bf)).size ≤ 100000 := by
          rw [str_size]; exact cntM_len HD.out (by omega) ⟨by simp only; omega, by simp only; omega⟩ ⟨by simp only; omega, by simp only; omega⟩ hbz
        have hc8 : cm < allK.length := by rw [allK_len]; omega
        have hky := allK_size (List.getElem_mem hc8)
        have CS := Lib.hid fun W => rseal_c allK[cm] (str (cntM ⟨d0, d1, d2, d3⟩ k ⟨(cm : Int), le + pp, l[k].sig⟩ bf)) (by omega) (by omega) W
        have hSz : (sealM allK[cm] (bts (str (cntM ⟨d0, d1, d2, d3⟩ k ⟨(cm : Int), le + pp, l[k].sig⟩ bf)))).size = 32 := shaB_size _
        generalize sealM allK[cm] (bts (str (cntM ⟨d0, d1, d2, d3⟩ k ⟨(cm : Int), le + pp, l[k].sig⟩ bf))) = SS at *
        generalize str (cntM ⟨d0, d1, d2, d3⟩ k ⟨(cm : Int), le + pp, l[k].sig⟩ bf) = CT at *
        have HKY : Hid (∀ (W1 W2 : World) (a : Option Addr) (c : Nat), StY W1 W2 (.slice a 8 c) allK → ∃ kb ko, a = some ⟨kb, ko, none⟩ ∧ W2.cell? ⟨kb, ko + cm, none⟩ = some (.string allK[cm])) := Lib.hid fun W1 W2 a c h => by
          have hs := sl_of_row h.row
          rw [allK_len] at hs
          obtain ⟨kb, ko, rfl, hc⟩ := hs.at_ (by omega)
          exact ⟨kb, ko, rfl, hc cm _ (by simp [hc8])⟩
        generalize allK[cm] = ky at *
        have hsl := HYL.out.at_
        have p0 := hdRow0 hsl k hkL 0 (.int .i64 L[k].car) rfl
        simp only [Nat.add_zero, hLk] at p0
        obtain ⟨cur, hcur⟩ := row_blkH (g := gq) (cap := pu) HYL.out.row (by rw [hLl])
        have y0 := free_of_blk hcur.1 (k * 3 + 2)
        obtain ⟨ov, y1⟩ : ∃ ov, V1.cell? ⟨gq, k * 3 + 2, none⟩ = some ov := ⟨_, (cell_of_blk hcur.1 (k * 3 + 2)).trans (Array.getElem?_eq_getElem (by have := hcur.2; omega))⟩
        have HFZ : Hid (∀ W : World, Fr [] V1 W → W.frozen? ⟨gq, k * 3 + 2, none⟩ = false) := Lib.hid fun W hf => free_of_blk (hf.keep hcur.1 (by simp)) (k * 3 + 2)
        have b0 := cell_of_blk HB1.out 0; have b1 := cell_of_blk HB1.out 1; have b2 := cell_of_blk HB1.out 2; have b3 := cell_of_blk HB1.out 3; have b4 := cell_of_blk HB1.out 4
        have HSS := Lib.hid hSz; have HLK := Lib.hid hLk; have HLL := Lib.hid hLl
        have CA := Lib.hid fun W => all25_c W
        clear hL hLk hLl hGL hset hbf hbz hcl hc8 hky hSz hsl hcur y0 HLD HBD HZD hp2 hle hnl hmb
        go_wp2_with fail
        refine reg_tree (Fr [] V1) 18 (.take 0 (.take 1 (.take 2 (.take 4 (.take 5 (.take 6 (.take 7 (.take 8 (.take 9 (.take 12 (.take 13 (.one 3 (.take 10 (.two 11 14 (.one 14 (.one 15 (.take 16 (.take 17 (.one 18 .nil))))) (.one 11 (.one 15 (.take 16 (.take 17 (.one 18 .nil))))))))))))))))))) (by kernel_rfl) (by kernel_rfl) (by kernel_rfl) rfl ?_
        have FC : Fr [] V1 V1.drew := Fr.drew _ _
        generalize V1.drew = WC1 at *
        iterate 11 (refine tree_take (v := ?_) rfl rfl rfl FC (fun w hS => ?_) ?_; rotate_left; (focus (have e0 := hS.cel b0 (by simp); have e1 := hS.cel b1 (by simp); have e2 := hS.cel b2 (by simp); have e3 := hS.cel b3 (by simp); have e4 := hS.cel b4 (by simp); have e5 := hS.cel p0 (by simp); clear hS; go_simp; (try rw [if_pos hkI]); (try rw [if_pos hcI]); rfl)); simp only [List.setIfInBounds_toArray, List.set_cons_succ, List.set_cons_zero])
        refine tree_one rfl rfl (fun K hK => ?_)
        go_simp
        refine (CA.out _).mono ?_
        rintro e w5 ⟨kv, rfl, hk5⟩
        obtain ⟨ka, kc, rfl⟩ := hk5.val
        have hk6 := hk5
        rw [allK_len] at hk6 ⊢
        obtain ⟨kb, ko, rfl, k0⟩ := HKY.out _ _ _ _ hk6
        have FC := FC.trans hk5.fr
        clear hk5 hk6 CA
        refine hK _ _ FC ?_
        clear hK K
        try simp only [Act.put, List.setIfInBounds_toArray, List.set_cons_succ, List.set_cons_zero]
        (refine tree_take (v := ?_) rfl rfl rfl FC (fun w hS => ?_) ?_; rotate_left; (focus (clear hS; go_simp; (try rw [if_pos hkI]); (try rw [if_pos hcI]); rfl)); simp only [List.setIfInBounds_toArray, List.set_cons_succ, List.set_cons_zero])
        refine ⟨?_, ?_⟩
        · refine tree_op rfl rfl (fun K hK => ?_)
          go_simp
          refine hK _ _ FC ?_
          clear hK K
          try simp only [Act.put, List.setIfInBounds_toArray, List.set_cons_succ, List.set_cons_zero]
          refine tree_one rfl rfl (fun K hK => ?_)
          go_simp
          refine (CC.out _ FC).mono ?_
          rintro e w6 ⟨rfl, fx⟩
          have FC := FC.trans fx
          have k0 := fx.cel k0 (by simp)
          clear fx
          refine hK _ _ FC ?_
          clear hK K
          try simp only [Act.put, List.setIfInBounds_toArray, List.set_cons_succ, List.set_cons_zero]
          refine tree_one rfl rfl (fun K hK => ?_)
          go_simp
          refine (CS.out _).mono ?_
          rintro e w7 ⟨rfl, fx⟩
          have FC := FC.trans fx
          clear fx k0
          refine hK _ _ FC ?_
          clear hK K
          try simp only [Act.put, List.setIfInBounds_toArray, List.set_cons_succ, List.set_cons_zero]
          iterate 2 (refine tree_take (v := ?_) rfl rfl rfl FC (fun w hS => ?_) ?_; rotate_left; (focus (clear hS; go_simp; (try rw [if_pos hkI]); (try rw [if_pos hcI]); rfl)); simp only [List.setIfInBounds_toArray, List.set_cons_succ, List.set_cons_zero])
          have y0 := HFZ.out _ FC
          have y1 := FC.cel y1 (by simp)
          refine tree_last (o := ⟨none, _, _, _, _, _⟩) rfl rfl (fun K hK => ?_)
          go_simp
          try go_upon
          try go_simp
          have HYF : Hid (HdY W0 (w7.setCell ⟨gq, k * 3 + 2, none⟩ (.string SS)) (.slice (some ⟨gq, 0, none⟩) l.length pu) (l.set k ⟨l[k].car, le + pp, SS⟩)) := Lib.hid (by
            have h := (HYL.out.same FC).seal (by rw [HLL.out]) k hkL SS
            rw [HLK.out, HSETL.out] at h
            exact h)
          have FQ := Fr.setCell (fp := [gq]) (p := ⟨gq, k * 3 + 2, none⟩) w7 (.string SS) (by simp)
          have HBF := Lib.hid (FQ.keep (FC.keep HB1.out (by simp)) (by simpa using hBq))
          have HZF := Lib.hid (FQ.keep (FC.keep HZ1.out (by simp)) (by simp; omega))
          refine hK _ _ ?_
          clear hK K y0 y1 FQ FC b0 b1 b2 b3 b4 p0
          generalize w7.setCell ⟨gq, k * 3 + 2, none⟩ (.string SS) = w8 at *
          refine noPanic_nmZ ?_
          have c0 := cell_of_blk HBF.out 0; have c1 := cell_of_blk HBF.out 1; have c2 := cell_of_blk HBF.out 2; have c3 := cell_of_blk HBF.out 3; have c4 := cell_of_blk HBF.out 4
          have z0 := cell_of_blk HZF.out 0; have z1 := cell_of_blk HZF.out 1; have z2 := cell_of_blk HZF.out 2; have z3 := cell_of_blk HZF.out 3; have z4 := cell_of_blk HZF.out 4
          have y0 := free_of_blk HZF.out 0; have y1 := free_of_blk HZF.out 1; have y2 := free_of_blk HZF.out 2; have y3 := free_of_blk HZF.out 3; have y4 := free_of_blk HZF.out 4
          obtain ⟨KF, FF⟩ := set5 HZF.out (.int .i64 d0) (.int .i64 d1) (.int .i64 d2) (.int .i64 d3) (.slice (some ⟨gq, 0, none⟩) l.length pu)
          have HE : Hid (HdY w _ (.slice (some ⟨gq, 0, none⟩) l.length pu) (l.set k ⟨l[k].car, le + pp, SS⟩)) := Lib.hid ⟨row_fr HYF.out.row FF (fun b hb hm => by cases hb; simp at hm; omega), fun b hb => by cases hb; show _ ≤ gq; omega, (HF2.out.trans HYF.out.fr).step FF (fun i hi => .inr (by simp at hi; omega))⟩
          have k0 := cell_of_blk KF 0; have k1 := cell_of_blk KF 1; have k2 := cell_of_blk KF 2; have k3 := cell_of_blk KF 3; have k4 := cell_of_blk KF 4
          clear FF KF
          go_wp2_with fail
          refine bodyPost_ret (v := .tuple #[.agg #[.int .i64 d0, .int .i64 d1, .int .i64 d2, .int .i64 d3, .slice (some ⟨gq, 0, none⟩) l.length pu], .int .i64 k]) (by simp [results, Tryz.results9, go_sem, k0, k1, k2, k3, k4]; try rfl) rfl ?_
          refine ⟨_, _, k, rfl, ?_, HE.out⟩
          simp only [fmB, isInB, Bool.and_eq_true, decide_eq_true_eq]
          exact ⟨⟨HD.out, by simp; omega⟩, HSET.out SS HSS.out⟩
        · refine tree_op rfl rfl (fun K hK => ?_)
          go_simp
          refine (CC.out _ FC).mono ?_
          rintro e w6 ⟨rfl, fx⟩
          have FC := FC.trans fx
          have k0 := fx.cel k0 (by simp)
          clear fx
          refine hK _ _ FC ?_
          clear hK K
          try simp only [Act.put, List.setIfInBounds_toArray, List.set_cons_succ, List.set_cons_zero]
          refine tree_one rfl rfl (fun K hK => ?_)
          go_simp
          refine hK _ _ FC ?_
          clear hK K
          try simp only [Act.put, List.setIfInBounds_toArray, List.set_cons_succ, List.set_cons_zero]
          refine tree_one rfl rfl (fun K hK => ?_)
          go_simp
          refine (CS.out _).mono ?_
          rintro e w7 ⟨rfl, fx⟩
          have FC := FC.trans fx
          clear fx k0
          refine hK _ _ FC ?_
          clear hK K
          try simp only [Act.put, List.setIfInBounds_toArray, List.set_cons_succ, List.set_cons_zero]
          iterate 2 (refine tree_take (v := ?_) rfl rfl rfl FC (fun w hS => ?_) ?_; rotate_left; (focus (clear hS; go_simp; (try rw [if_pos hkI]); (try rw [if_pos hcI]); rfl)); simp only [List.setIfInBounds_toArray, List.set_cons_succ, List.set_cons_zero])
          have y0 := HFZ.out _ FC
          have y1 := FC.cel y1 (by simp)
          refine tree_last (o := ⟨none, _, _, _, _, _⟩) rfl rfl (fun K hK => ?_)
          go_simp
          try go_upon
          try go_simp
          have HYF : Hid (HdY W0 (w7.setCell ⟨gq, k * 3 + 2, none⟩ (.string SS)) (.slice (some ⟨gq, 0, none⟩) l.length pu) (l.set k ⟨l[k].car, le + pp, SS⟩)) := Lib.hid (by
            have h := (HYL.out.same FC).seal (by rw [HLL.out]) k hkL SS
            rw [HLK.out, HSETL.out] at h
            exact h)
          have FQ := Fr.setCell (fp := [gq]) (p := ⟨gq, k * 3 + 2, none⟩) w7 (.string SS) (by simp)
          have HBF := Lib.hid (FQ.keep (FC.keep HB1.out (by simp)) (by simpa using hBq))
          have HZF := Lib.hid (FQ.keep (FC.keep HZ1.out (by simp)) (by simp; omega))
          refine hK _ _ ?_
          clear hK K y0 y1 FQ FC b0 b1 b2 b3 b4 p0
          generalize w7.setCell ⟨gq, k * 3 + 2, none⟩ (.string SS) = w8 at *
          refine noPanic_nmZ ?_
          have c0 := cell_of_blk HBF.out 0; have c1 := cell_of_blk HBF.out 1; have c2 := cell_of_blk HBF.out 2; have c3 := cell_of_blk HBF.out 3; have c4 := cell_of_blk HBF.out 4
          have z0 := cell_of_blk HZF.out 0; have z1 := cell_of_blk HZF.out 1; have z2 := cell_of_blk HZF.out 2; have z3 := cell_of_blk HZF.out 3; have z4 := cell_of_blk HZF.out 4
          have y0 := free_of_blk HZF.out 0; have y1 := free_of_blk HZF.out 1; have y2 := free_of_blk HZF.out 2; have y3 := free_of_blk HZF.out 3; have y4 := free_of_blk HZF.out 4
          obtain ⟨KF, FF⟩ := set5 HZF.out (.int .i64 d0) (.int .i64 d1) (.int .i64 d2) (.int .i64 d3) (.slice (some ⟨gq, 0, none⟩) l.length pu)
          have HE : Hid (HdY w _ (.slice (some ⟨gq, 0, none⟩) l.length pu) (l.set k ⟨l[k].car, le + pp, SS⟩)) := Lib.hid ⟨row_fr HYF.out.row FF (fun b hb hm => by cases hb; simp at hm; omega), fun b hb => by cases hb; show _ ≤ gq; omega, (HF2.out.trans HYF.out.fr).step FF (fun i hi => .inr (by simp at hi; omega))⟩
          have k0 := cell_of_blk KF 0; have k1 := cell_of_blk KF 1; have k2 := cell_of_blk KF 2; have k3 := cell_of_blk KF 3; have k4 := cell_of_blk KF 4
          clear FF KF
          go_wp2_with fail
          refine bodyPost_ret (v := .tuple #[.agg #[.int .i64 d0, .int .i64 d1, .int .i64 d2, .int .i64 d3, .slice (some ⟨gq, 0, none⟩) l.length pu], .int .i64 k]) (by simp [results, Tryz.results9, go_sem, k0, k1, k2, k3, k4]; try rfl) rfl ?_
          refine ⟨_, _, k, rfl, ?_, HE.out⟩
          simp only [fmB, isInB, Bool.and_eq_true, decide_eq_true_eq]
          exact ⟨⟨HD.out, by simp; omega⟩, HSET.out SS HSS.out⟩

end Go.Proofs.YtahfpadaoobkfaaGreatDoor
