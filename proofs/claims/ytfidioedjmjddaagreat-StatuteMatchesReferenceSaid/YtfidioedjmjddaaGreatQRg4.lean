/-
  dialtoneref08: Valid.
-/
import Derived.Test.YtfidioedjmjddaaGreatQRA
namespace Go.Proofs.YtfidioedjmjddaaGreat
open Go.RowKit Go.Lib

theorem faRow_cells' {w : World} {v : Value} {fs : List Fa} (h : Sl w v fs.length (fs.flatMap faC)) (k : Nat) (hk : k < fs.length) : ∃ b off cap, v = .slice (some ⟨b, off, none⟩) fs.length cap ∧ ∀ j u, (faC fs[k])[j]? = some u → w.cell? ⟨b, off + k * 6 + j, none⟩ = some u := by
  obtain ⟨a, cap, rfl⟩ := h.val
  obtain ⟨b, off, rfl, hc⟩ := h.at_ (by omega)
  refine ⟨b, off, cap, rfl, fun j u hu => ?_⟩
  have hj : j < 6 := by have := (List.getElem?_eq_some_iff.1 hu).1; simpa [faC] using this
  have := hc (k * 6 + j) u ((flat_get (enc := faC) (k := 6) (fun _ => rfl) fs k hk j hj).trans hu)
  rwa [← Nat.add_assoc] at this
theorem valid_no {c : Rb} (h : ¬ (c.cls.all clB = true ∧ c.rps.all (rpB c.cls.length) = true ∧ c.fas.all faB = true)) : validB c = false := by
  cases hv : validB c with
  | false => rfl
  | true =>
    exfalso
    unfold validB at hv
    simp only [Bool.and_eq_true] at hv
    exact h ⟨hv.1.1.2, hv.1.2, hv.2⟩

set_option maxRecDepth 1000000 in
set_option maxHeartbeats 4000000 in
theorem rvalid_c (vc vr vf : Value) (ys : List ClV) (c : Rb) (w : World) (h : RbAt w vc vr vf ys c) : Calls Tryz.prog 9 #[rbV vc vr vf] w fun e w' => e = .returned (.bool (validB c)) ∧ Fr [] w w' := by
  have hyl := h.cls.sl.len
  have hrl := h.rps.len
  have hfl := h.fas.len
  obtain ⟨ac, pc, rfl⟩ := h.cls.sl.val
  obtain ⟨ar, pr, rfl⟩ := h.rps.val
  obtain ⟨af, pf, rfl⟩ := h.fas.val
  have hcl : c.cls.length = ys.length := by rw [h.eq, List.length_map]
  have HEQ := Lib.hid h.eq
  have f0 := Fr.alloc [] w (.cells #[.slice ac ys.length pc, .slice ar c.rps.length pr, .slice af c.fas.length pf] 30)
  have HCL := Lib.hid (h.cls.sl.same f0); have HRP := Lib.hid (h.rps.same f0); have HFA := Lib.hid (h.fas.same f0)
  have HNE := Lib.hid h.cls.needs; have HBA := Lib.hid h.cls.bars
  clear h f0
  unfold rbV
  go_enter Tryz.func9, Tryz.ntmps9
  go_wp2_with fail
  go_loopw [3] (fun s wr => ∃ k : Nat, k ≤ ys.length ∧ s = .int .i64 k ∧ Hid ((c.cls.take k).all clB = true) ∧ Hid (Fr [] (w.alloc (.cells #[.slice ac ys.length pc, .slice ar c.rps.length pr, .slice af c.fas.length pf] 30)) wr)) (fun s _ => ys.length - (intOf s).toNat)
  case atStart => exact ⟨0, Nat.zero_le _, rfl, Lib.hid (by simp), Lib.hid (Fr.refl _ _)⟩
  case round =>
    obtain ⟨k, hk, rfl, HA, HF⟩ := hrel
    have kb := HF.out.keep (heap_alloc_new _ _) (by simp)
    have b0 := cell_of_blk kb 0; have b1 := cell_of_blk kb 1; have b2 := cell_of_blk kb 2
    clear kb
    by_cases hlt : k < ys.length
    · have HV : Hid (clB (c.cls[k]'(by omega)) = false → validB c = false) := Lib.hid fun hq => valid_no (by simp only [List.all_eq_true]; exact fun ⟨h, _⟩ => by rw [h _ (List.getElem_mem _)] at hq; cases hq)
      have HT : Hid (clB (c.cls[k]'(by omega)) = true → (c.cls.take (k + 1)).all clB = true) := Lib.hid fun hq => by rw [List.take_succ_eq_append_getElem (by omega), List.all_append, HA.out]; simpa using hq
      clear HA
      obtain ⟨xb, xo, xcap, hv, hcl_⟩ := clRow_cells (HCL.out.same HF.out) k hlt
      cases hv
      have x0 := hcl_ 0 _ rfl; have x1 := hcl_ 1 _ rfl; have x2 := hcl_ 2 _ rfl; have x3 := hcl_ 3 _ rfl; have x4 := hcl_ 4 _ rfl; have x5 := hcl_ 5 _ rfl
      simp only [Nat.add_zero] at x0 x1 x2 x3 x4 x5
      obtain ⟨y, hy⟩ : ∃ y, ys[k] = y := ⟨_, rfl⟩
      have hyx : c.cls[k]'(by rw [hcl]; exact hlt) = y.x := by rw [← hy]; simp only [HEQ.out, List.getElem_map]
      have HN := Lib.hid (HNE.out y (by rw [← hy]; exact List.getElem_mem _)); have HB := Lib.hid (HBA.out y (by rw [← hy]; exact List.getElem_mem _))
      rw [hyx] at HV HT
      rw [hy] at x0 x1 x2 x3 x4 x5
      clear hy hyx hcl_
      obtain ⟨⟨xp, xf, xt, xn, xb_, xg⟩, vn, vb⟩ := y
      obtain ⟨an, pn, hvn⟩ := HN.out.val
      obtain ⟨ab, pb, hvb⟩ := HB.out.val
      simp only at hvn hvb x0 x1 x2 x3 x4 x5
      subst hvn hvb
      simp only at HN HB
      have HFA0 := Lib.hid (Fr.trans (Fr.alloc [] w _) (HF.out.trans (Fr.alloc [] wr (.cells #[.int .i64 xp, .int .i64 xf, .int .i64 xt, .slice an xn.length pn, .slice ab xb_.length pb, .int .i64 xg] 67))))
      have GB : Hid (∀ W, Fr [] (wr.alloc (.cells #[.int .i64 xp, .int .i64 xf, .int .i64 xt, .slice an xn.length pn, .slice ab xb_.length pb, .int .i64 xg] 67)) W → W.heap[wr.heap.size]? = some (.cells #[.int .i64 xp, .int .i64 xf, .int .i64 xt, .slice an xn.length pn, .slice ab xb_.length pb, .int .i64 xg] 67)) := Lib.hid fun W hf => hf.keep (heap_alloc_new _ _) (by simp)
      have G0 := Lib.hid (Fr.refl [] (wr.alloc (.cells #[.int .i64 xp, .int .i64 xf, .int .i64 xt, .slice an xn.length pn, .slice ab xb_.length pb, .int .i64 xg] 67)))
      go_wp2_with fail
      refine (rsecond_c xp _).mono ?_
      rintro e w1 ⟨rfl, rfl⟩
      cases hb1 : secB xp
      · have HX := Lib.hid (HV.out (by simp [clB, hb1]))
        clear hb1
        go_wp2_with fail
        go_ret
        exact ⟨by rw [HX.out]; rfl, ((Fr.alloc _ _ _).trans (HF.out.trans (Fr.alloc _ _ _))).trans G0.out⟩
      · skip
        go_wp2_with fail
        refine (rspell_c xf xt _).mono ?_
        rintro e w2 ⟨rfl, f2⟩
        have G2 := Lib.hid (G0.out.trans f2)
        clear f2
        have kb := GB.out _ G2.out
        have g23 := cell_of_blk kb 3
        have g25 := cell_of_blk kb 5
        clear kb
        cases hb2 : spellB xf xt
        · have HX := Lib.hid (HV.out (by simp [clB, hb1, hb2]))
          clear hb1 hb2
          go_wp2_with fail
          go_ret
          exact ⟨by rw [HX.out]; rfl, ((Fr.alloc _ _ _).trans (HF.out.trans (Fr.alloc _ _ _))).trans G2.out⟩
        · skip
          go_wp2_with fail
          clear g23 g25
          refine (rin_c xg 0 19 _).mono ?_
          rintro e w3 ⟨rfl, rfl⟩
          have kb := GB.out _ G2.out
          have g33 := cell_of_blk kb 3
          have g35 := cell_of_blk kb 5
          clear kb
          cases hb3 : isInB xg 0 19
          · have HX := Lib.hid (HV.out (by simp [clB, hb1, hb2, hb3]))
            clear hb1 hb2 hb3
            go_wp2_with fail
            go_ret
            exact ⟨by rw [HX.out]; rfl, ((Fr.alloc _ _ _).trans (HF.out.trans (Fr.alloc _ _ _))).trans G2.out⟩
          · skip
            go_wp2_with fail
            clear g33 g35
            refine (rterms_c (.slice an xn.length pn) xn xg _ (HN.out.same (HFA0.out.trans G2.out)) (by have := isInB_iff.1 hb3; omega)).mono ?_
            rintro e w4 ⟨rfl, f4⟩
            have G4 := Lib.hid (G2.out.trans f4)
            clear f4
            have kb := GB.out _ G4.out
            have g44 := cell_of_blk kb 4
            have g45 := cell_of_blk kb 5
            clear kb
            cases hb4 : ascB xn xg
            · have HX := Lib.hid (HV.out (by simp [clB, hb1, hb2, hb3, hb4]))
              clear hb1 hb2 hb3 hb4
              go_wp2_with fail
              go_ret
              exact ⟨by rw [HX.out]; rfl, ((Fr.alloc _ _ _).trans (HF.out.trans (Fr.alloc _ _ _))).trans G4.out⟩
            · skip
              go_wp2_with fail
              clear g44 g45
              refine (rterms_c (.slice ab xb_.length pb) xb_ xg _ (HB.out.same (HFA0.out.trans G4.out)) (by have := isInB_iff.1 hb3; omega)).mono ?_
              rintro e w5 ⟨rfl, f5⟩
              have G5 := Lib.hid (G4.out.trans f5)
              clear f5
              cases hb5 : ascB xb_ xg
              · have HX := Lib.hid (HV.out (by simp [clB, hb1, hb2, hb3, hb4, hb5]))
                clear hb1 hb2 hb3 hb4 hb5
                go_wp2_with fail
                go_ret
                exact ⟨by rw [HX.out]; rfl, ((Fr.alloc _ _ _).trans (HF.out.trans (Fr.alloc _ _ _))).trans G5.out⟩
              · skip
                have HT2 := Lib.hid (HT.out (by simp [clB, hb1, hb2, hb3, hb4, hb5]))
                clear hb1 hb2 hb3 hb4 hb5
                have HF2 := Lib.hid ((HF.out.trans (Fr.alloc _ _ _)).trans G5.out)
                clear b0 b1 b2
                go_wp2_with fail
                go_roundw
                case rel => exact ⟨k + 1, by omega, by go_num, HT2, HF2⟩
                case measure => simp [intOf]; omega
    · obtain rfl : k = ys.length := by omega
      have HAll := Lib.hid (show c.cls.all clB = true by have := HA.out; rwa [List.take_of_length_le (by omega)] at this)
      clear HA
      have HAll1 := HAll; clear HAll
      have HF0 := HF
      go_wp2_with fail
      clear b0 b1 b2
      go_loopw [5] (fun s wr => ∃ k : Nat, k ≤ c.rps.length ∧ s = .int .i64 k ∧ Hid ((c.rps.take k).all (rpB ys.length) = true) ∧ Hid (Fr [] (w.alloc (.cells #[.slice ac ys.length pc, .slice ar c.rps.length pr, .slice af c.fas.length pf] 30)) wr)) (fun s _ => c.rps.length - (intOf s).toNat)
      case atStart => exact ⟨0, Nat.zero_le _, rfl, Lib.hid (by simp), HF0⟩
      case round =>
        obtain ⟨k, hk, rfl, HA, HF⟩ := hrel
        have kb := HF.out.keep (heap_alloc_new _ _) (by simp)
        have b0 := cell_of_blk kb 0; have b1 := cell_of_blk kb 1; have b2 := cell_of_blk kb 2
        clear kb
        by_cases hlt : k < c.rps.length
        · have HV : Hid ((rpB ys.length) (c.rps[k]'(by omega)) = false → validB c = false) := Lib.hid fun hq => valid_no (by simp only [List.all_eq_true, hcl]; exact fun ⟨_, h, _⟩ => by rw [h _ (List.getElem_mem _)] at hq; cases hq)
          have HT : Hid ((rpB ys.length) (c.rps[k]'(by omega)) = true → (c.rps.take (k + 1)).all (rpB ys.length) = true) := Lib.hid fun hq => by rw [List.take_succ_eq_append_getElem (by omega), List.all_append, HA.out]; simpa using hq
          clear HA
          obtain ⟨xb, xo, xcap, hv, hcl_⟩ := rpRow_cells' (HRP.out.same HF.out) k hlt
          cases hv
          have x0 := hcl_ 0 _ rfl; have x1 := hcl_ 1 _ rfl; have x2 := hcl_ 2 _ rfl
          simp only [Nat.add_zero] at x0 x1 x2
          generalize c.rps[k] = x at *
          obtain ⟨xc, xp, xf⟩ := x
          simp only at x0 x1 x2
          have o0 := cell_of_blk ((HF.out.trans (Fr.alloc [] wr (.cells #[.int .i64 xc, .int .i64 xp, .int .i64 xf] 60))).keep (heap_alloc_new _ _) (by simp)) 0
          clear hcl_
          have GB : Hid (∀ W, Fr [] (wr.alloc (.cells #[.int .i64 xc, .int .i64 xp, .int .i64 xf] 60)) W → W.heap[wr.heap.size]? = some (.cells #[.int .i64 xc, .int .i64 xp, .int .i64 xf] 60)) := Lib.hid fun W hf => hf.keep (heap_alloc_new _ _) (by simp)
          have G0 := Lib.hid (Fr.refl [] (wr.alloc (.cells #[.int .i64 xc, .int .i64 xp, .int .i64 xf] 60)))
          go_wp2_with fail
          refine (rin_c xc 0 ((ys.length : Int) - 1) _).mono ?_
          rintro e w1 ⟨rfl, rfl⟩
          cases hb1 : isInB xc 0 ((ys.length : Int) - 1)
          · have HX := Lib.hid (HV.out (by simp [rpB, hb1]))
            clear hb1
            go_wp2_with fail
            go_ret
            exact ⟨by rw [HX.out]; rfl, ((Fr.alloc _ _ _).trans (HF.out.trans (Fr.alloc _ _ _))).trans G0.out⟩
          · skip
            go_wp2_with fail
            refine (rsecond_c xp _).mono ?_
            rintro e w2 ⟨rfl, rfl⟩
            cases hb2 : secB xp
            · have HX := Lib.hid (HV.out (by simp [rpB, hb1, hb2]))
              clear hb1 hb2
              go_wp2_with fail
              go_ret
              exact ⟨by rw [HX.out]; rfl, ((Fr.alloc _ _ _).trans (HF.out.trans (Fr.alloc _ _ _))).trans G0.out⟩
            · skip
              go_wp2_with fail
              refine (rsecond_c xf _).mono ?_
              rintro e w3 ⟨rfl, rfl⟩
              cases hb3 : secB xf
              · have HX := Lib.hid (HV.out (by simp [rpB, hb1, hb2, hb3]))
                clear hb1 hb2 hb3
                go_wp2_with fail
                go_ret
                exact ⟨by rw [HX.out]; rfl, ((Fr.alloc _ _ _).trans (HF.out.trans (Fr.alloc _ _ _))).trans G0.out⟩
              · skip
                have HT2 := Lib.hid (HT.out (by simp [rpB, hb1, hb2, hb3]))
                clear hb1 hb2 hb3
                have HF2 := Lib.hid ((HF.out.trans (Fr.alloc _ _ _)).trans G0.out)
                clear b0 b1 b2
                go_wp2_with fail
                go_roundw
                case rel => exact ⟨k + 1, by omega, by go_num, HT2, HF2⟩
                case measure => simp [intOf]; omega
        · obtain rfl : k = c.rps.length := by omega
          have HAll := Lib.hid (show c.rps.all (rpB ys.length) = true by have := HA.out; rwa [List.take_of_length_le (by omega)] at this)
          clear HA
          have HAll2 := HAll; clear HAll
          have HF0 := HF
          go_wp2_with fail
          clear b0 b1 b2
          go_loopw [7] (fun s wr => ∃ k : Nat, k ≤ c.fas.length ∧ s = .int .i64 k ∧ Hid ((c.fas.take k).all faB = true) ∧ Hid (Fr [] (w.alloc (.cells #[.slice ac ys.length pc, .slice ar c.rps.length pr, .slice af c.fas.length pf] 30)) wr)) (fun s _ => c.fas.length - (intOf s).toNat)
          case atStart => exact ⟨0, Nat.zero_le _, rfl, Lib.hid (by simp), HF0⟩
          case round =>
            obtain ⟨k, hk, rfl, HA, HF⟩ := hrel
            have kb := HF.out.keep (heap_alloc_new _ _) (by simp)
            have b0 := cell_of_blk kb 0; have b1 := cell_of_blk kb 1; have b2 := cell_of_blk kb 2
            clear kb
            by_cases hlt : k < c.fas.length
            · have HV : Hid (faB (c.fas[k]'(by omega)) = false → validB c = false) := Lib.hid fun hq => valid_no (by simp only [List.all_eq_true]; exact fun ⟨_, _, h⟩ => by rw [h _ (List.getElem_mem _)] at hq; cases hq)
              have HT : Hid (faB (c.fas[k]'(by omega)) = true → (c.fas.take (k + 1)).all faB = true) := Lib.hid fun hq => by rw [List.take_succ_eq_append_getElem (by omega), List.all_append, HA.out]; simpa using hq
              clear HA
              obtain ⟨xb, xo, xcap, hv, hcl_⟩ := faRow_cells' (HFA.out.same HF.out) k hlt
              cases hv
              have x0 := hcl_ 0 _ rfl; have x1 := hcl_ 1 _ rfl; have x2 := hcl_ 2 _ rfl; have x3 := hcl_ 3 _ rfl; have x4 := hcl_ 4 _ rfl; have x5 := hcl_ 5 _ rfl
              simp only [Nat.add_zero] at x0 x1 x2 x3 x4 x5
              generalize c.fas[k] = x at *
              obtain ⟨th, sa, f, t, kf, kt⟩ := x
              simp only at x0 x1 x2 x3 x4 x5
              clear hcl_
              have GB : Hid (∀ W, Fr [] (wr.alloc (.cells #[.int .i64 th, .int .i64 sa, .int .i64 f, .int .i64 t, .int .i64 kf, .int .i64 kt] 74)) W → W.heap[wr.heap.size]? = some (.cells #[.int .i64 th, .int .i64 sa, .int .i64 f, .int .i64 t, .int .i64 kf, .int .i64 kt] 74)) := Lib.hid fun W hf => hf.keep (heap_alloc_new _ _) (by simp)
              have G0 := Lib.hid (Fr.refl [] (wr.alloc (.cells #[.int .i64 th, .int .i64 sa, .int .i64 f, .int .i64 t, .int .i64 kf, .int .i64 kt] 74)))
              go_wp2_with fail
              refine (rin_c th 0 99999999 _).mono ?_
              rintro e w1 ⟨rfl, rfl⟩
              cases hb1 : isInB th 0 99999999
              · have HX := Lib.hid (HV.out (by simp [faB, hb1]))
                clear hb1
                go_wp2_with fail
                go_ret
                exact ⟨by rw [HX.out]; rfl, ((Fr.alloc _ _ _).trans (HF.out.trans (Fr.alloc _ _ _))).trans G0.out⟩
              · skip
                go_wp2_with fail
                refine (rin_c sa 0 19 _).mono ?_
                rintro e w2 ⟨rfl, rfl⟩
                cases hb2 : isInB sa 0 19
                · have HX := Lib.hid (HV.out (by simp [faB, hb1, hb2]))
                  clear hb1 hb2
                  go_wp2_with fail
                  go_ret
                  exact ⟨by rw [HX.out]; rfl, ((Fr.alloc _ _ _).trans (HF.out.trans (Fr.alloc _ _ _))).trans G0.out⟩
                · skip
                  go_wp2_with fail
                  refine (rspell_c f t _).mono ?_
                  rintro e w3 ⟨rfl, f3⟩
                  have G3 := Lib.hid (G0.out.trans f3)
                  clear f3
                  have kb := GB.out _ G3.out
                  have g34 := cell_of_blk kb 4
                  have g35 := cell_of_blk kb 5
                  clear kb
                  cases hb3 : spellB f t
                  · have HX := Lib.hid (HV.out (by simp [faB, hb1, hb2, hb3]))
                    clear hb1 hb2 hb3
                    go_wp2_with fail
                    go_ret
                    exact ⟨by rw [HX.out]; rfl, ((Fr.alloc _ _ _).trans (HF.out.trans (Fr.alloc _ _ _))).trans G3.out⟩
                  · skip
                    go_wp2_with fail
                    clear g34 g35
                    refine (rspell_c kf kt _).mono ?_
                    rintro e w4 ⟨rfl, f4⟩
                    have G4 := Lib.hid (G3.out.trans f4)
                    clear f4
                    cases hb4 : spellB kf kt
                    · have HX := Lib.hid (HV.out (by simp [faB, hb1, hb2, hb3, hb4]))
                      clear hb1 hb2 hb3 hb4
                      go_wp2_with fail
                      go_ret
                      exact ⟨by rw [HX.out]; rfl, ((Fr.alloc _ _ _).trans (HF.out.trans (Fr.alloc _ _ _))).trans G4.out⟩
                    · skip
                      have HT2 := Lib.hid (HT.out (by simp [faB, hb1, hb2, hb3, hb4]))
                      clear hb1 hb2 hb3 hb4
                      have HF2 := Lib.hid ((HF.out.trans (Fr.alloc _ _ _)).trans G4.out)
                      clear b0 b1 b2
                      go_wp2_with fail
                      go_roundw
                      case rel => exact ⟨k + 1, by omega, by go_num, HT2, HF2⟩
                      case measure => simp [intOf]; omega
            · obtain rfl : k = c.fas.length := by omega
              have HAll := Lib.hid (show c.fas.all faB = true by have := HA.out; rwa [List.take_of_length_le (by omega)] at this)
              clear HA
              have HE : Hid (validB c = (decide (ys.length ≤ 20) && decide (c.rps.length ≤ 10) && decide (c.fas.length ≤ 20))) := Lib.hid (by unfold validB; rw [hcl, HAll1.out, HAll2.out, HAll.out]; simp)
              have kb := HF.out.keep (heap_alloc_new _ _) (by simp)
              have b0 := cell_of_blk kb 0; have b1 := cell_of_blk kb 1; have b2 := cell_of_blk kb 2
              clear kb
              by_cases n1 : ys.length ≤ 20
              · by_cases n2 : c.rps.length ≤ 10
                · go_wp2_with fail
                  go_ret
                  exact ⟨by rw [HE.out]; simp [n1, n2]; omega, (Fr.alloc _ _ _).trans HF.out⟩
                · have n2' : decide ((c.rps.length : Int) ≤ 10) = false := by simp; omega
                  go_wp2_with fail
                  go_ret
                  exact ⟨by rw [HE.out]; simp [n1, n2], (Fr.alloc _ _ _).trans HF.out⟩
              · have n1' : decide ((ys.length : Int) ≤ 20) = false := by simp; omega
                go_wp2_with fail
                go_ret
                exact ⟨by rw [HE.out]; simp [n1], (Fr.alloc _ _ _).trans HF.out⟩

end Go.Proofs.YtfidioedjmjddaaGreat
