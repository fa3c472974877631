/-
  statute: find, over so.
-/
import Derived.Test.YtahfpadaoobkfaaGreatDoorQS14
namespace Go.Proofs.YtahfpadaoobkfaaGreatDoor
open Go.RowKit Go.Lib Go.Maps

set_option maxRecDepth 100000 in
theorem find1_c (J : Jn) (m : Int) (B0 : Nat) (w : World) (D : DataW Unit) (hS : SoOk J m) (hJ : JS J w) (hD : FoundAt w J.bm J.fd D) (hB : w.heap[B0]? = some (.cells #[.pointer (some ⟨J.bj, 0, none⟩)] 188 (0, 0))) :
    Calls Tryz.prog 179 #[.int .i64 m, .pointer (some ⟨B0, 0, none⟩)] w fun e w' => e = .returned (.bool (!J.so m)) ∧ ∃ D', JM J (m + 1) w D w' D' := by
  have c0 : w.cell? ⟨B0, 0, none⟩ = some (.pointer (some ⟨J.bj, 0, none⟩)) := cell_of_blk hB 0
  have CS := Lib.hid (hS w D hJ hD)
  clear hS hJ hD hB
  go_enter Tryz.func179, Tryz.ntmps179
  go_wp2_with (first | (go_at_call 140; refine CS.out.mono ?_; rintro e w1 ⟨rfl, D1, j1, _⟩; have J1 := Lib.hid j1; clear j1))
  go_ret
  exact ⟨rfl, D1, J1.out⟩

set_option maxRecDepth 100000 in
theorem cf_needs (J : Jn) (n : Int) (hS : ∀ m : Int, 0 ≤ m → m < n → SoOk J m) (vn : Value) (l : List Int) (B0 : Nat) (w : World) (D : DataW Unit) (hJ : JS J w) (hD : FoundAt w J.bm J.fd D) (hn : IntsAt w vn l) (hm : ∀ m, m ∈ l → 0 ≤ m ∧ m < n) (hB : w.heap[B0]? = some (.cells #[.pointer (some ⟨J.bj, 0, none⟩)] 188 (0, 0))) (hne : B0 ≠ J.bm) :
    Calls Tryz.prog 43 #[vn, .func (.func 179) #[] #[.pointer (some ⟨B0, 0, none⟩)]] w fun e w' => e = .returned (.bool (!l.all J.so)) ∧ ∃ D', JM J n w D w' D' := by
  obtain ⟨a, cap, rfl⟩ := hn.val
  refine (cfInt_c 179 #[.pointer (some ⟨B0, 0, none⟩)] (fun _ _ => rfl) a cap l (fun k => !J.so (l.getD k 0)) (fun _ W => ∃ D', JM J n w D W D') w ?_ ?_ ⟨D, JM.refl hJ hD⟩).mono ?_
  · rintro k W ⟨D', h⟩
    exact hn.frM h.fr hD.map
  · rintro k W hk _ ⟨D', h⟩
    have hmem : l.getD k 0 ∈ l := by simp [hk]
    have hb := hm _ hmem
    refine (find1_c J (l.getD k 0) B0 W D' (hS _ hb.1 hb.2) h.js h.found (h.fr.keep hB (by simpa using hne))).mono ?_
    rintro e w' ⟨rfl, D2, h2⟩
    exact ⟨rfl, D2, h.trans h2 (by omega)⟩
  · rintro e w' ⟨rfl, k, h⟩
    exact ⟨by rw [anyN_list l (fun x => !J.so x) 0, any_not], h⟩

set_option maxRecDepth 100000 in
theorem cf_bars (J : Jn) (n : Int) (hS : ∀ m : Int, 0 ≤ m → m < n → SoOk J m) (vn : Value) (l : List Int) (w : World) (D : DataW Unit) (hJ : JS J w) (hD : FoundAt w J.bm J.fd D) (hn : IntsAt w vn l) (hm : ∀ m, m ∈ l → 0 ≤ m ∧ m < n) :
    Calls Tryz.prog 43 #[vn, .func (.func 140) #[.pointer (some ⟨J.bj, 0, none⟩)] #[]] w fun e w' => e = .returned (.bool (l.any J.so)) ∧ ∃ D', JM J n w D w' D' := by
  obtain ⟨a, cap, rfl⟩ := hn.val
  refine (cfIntB_c 140 (.pointer (some ⟨J.bj, 0, none⟩)) (fun _ _ => rfl) a cap l (fun k => J.so (l.getD k 0)) (fun _ W => ∃ D', JM J n w D W D') w ?_ ?_ ⟨D, JM.refl hJ hD⟩).mono ?_
  · rintro k W ⟨D', h⟩
    exact hn.frM h.fr hD.map
  · rintro k W hk _ ⟨D', h⟩
    have hmem : l.getD k 0 ∈ l := by simp [hk]
    have hb := hm _ hmem
    refine (hS _ hb.1 hb.2 W D' h.js h.found).mono ?_
    rintro e w' ⟨rfl, D2, h2, _⟩
    exact ⟨rfl, D2, h.trans h2 (by omega)⟩
  · rintro e w' ⟨rfl, k, h⟩
    exact ⟨by rw [anyN_list l J.so 0], h⟩

theorem find_at {l : List Int} {p : Int → Bool} {k : Nat} (hk : k < l.length) (h1 : p l[k] = true) (h0 : ∀ j, (h : j < l.length) → j < k → p l[j] = false) : l.find? p = some l[k] := by
  rw [List.find?_eq_some_iff_getElem]
  exact ⟨h1, k, hk, rfl, fun j hj => by simp [h0 j (by omega) hj]⟩
theorem find_none {l : List Int} {p : Int → Bool} (h0 : ∀ j, (h : j < l.length) → p l[j] = false) : l.find? p = none := by
  rw [List.find?_eq_none]
  intro x hx
  obtain ⟨j, hj, rfl⟩ := List.getElem_of_mem hx
  simp [h0 j hj]

/-- The result is written into its own block. -/
theorem findEnd {J : Jn} {n : Int} {w W2 W : World} {D D' : DataW Unit} {B : Nat} (hF : Fr [] w W2) (hJ : JS J w) (hD : FoundAt w J.bm J.fd D) (hM : JM J n W2 D W D') (hB : w.heap.size ≤ B) (hne : B ≠ J.bm) (a b c d : Value) :
    JM J n w D ((((W.setCell ⟨B, 0, none⟩ a).setCell ⟨B, 1, none⟩ b).setCell ⟨B, 2, none⟩ c).setCell ⟨B, 3, none⟩ d) D' := by
  have f3 : Fr [B] W ((((W.setCell ⟨B, 0, none⟩ a).setCell ⟨B, 1, none⟩ b).setCell ⟨B, 2, none⟩ c).setCell ⟨B, 3, none⟩ d) := (((Fr.setCell _ _ (by simp)).trans (Fr.setCell _ _ (by simp))).trans (Fr.setCell _ _ (by simp))).trans (Fr.setCell _ _ (by simp))
  have f4 : Fr [J.bm] w _ := ((hF.mono (by simp)).trans hM.fr).step f3 (fun i hi => by simp at hi; exact .inr (by omega))
  exact ⟨hJ.frM f4 hD.map, hM.found.fr' f3 (by simp; omega), f4, hM.mono, hM.up⟩

set_option maxRecDepth 100000 in
set_option maxHeartbeats 8000000 in
theorem find_of_so (J : Jn) (n : Nat) (hS : ∀ m : Int, 0 ≤ m → m < n → SoOk J m) : FindOk J n := by
  intro w D hJ hD
  obtain ⟨bj, bm, vc, vr, vf, v1, v2, ys, c, fs, cs⟩ := J
  obtain ⟨ac, pc, hvc⟩ := hJ.rb.cls.sl.val
  obtain ⟨af, pf, hvf⟩ := hJ.rb.fas.val
  obtain ⟨a1, p1, hv1⟩ := hJ.f.val
  obtain ⟨a2, p2, hv2⟩ := hJ.c.val
  simp only at hvc hvf hv1 hv2
  subst hvc hvf hv1 hv2
  have hfd : Hid (fdOf c fs cs n = findW c fs cs (soB c fs cs) n) := Lib.hid (fdOf_eq hJ.good n (by omega))
  have A2 := alloc2' w (.cells #[.pointer (some ⟨bj, 0, none⟩)] 188) (.cells #[.int .i64 0, .bool false, .int .i64 0, .int .i64 0] 98)
  have F2 : Fr [] w ((w.alloc (.cells #[.pointer (some ⟨bj, 0, none⟩)] 188)).alloc (.cells #[.int .i64 0, .bool false, .int .i64 0, .int .i64 0] 98)) := (Fr.alloc _ _ _).trans (Fr.alloc _ _ _)
  have hbm : bm < w.heap.size := hD.own.lt
  have hJ2 := hJ.same F2
  have hD2 := hD.fr F2
  have HJ0 := Lib.hid hJ; have HD0 := Lib.hid hD
  have HJ2 := Lib.hid hJ2; have HD2 := Lib.hid hD2; have HA := Lib.hid A2; have HF := Lib.hid F2; have HS := Lib.hid hS
  have c3 : ((w.alloc (.cells #[.pointer (some ⟨bj, 0, none⟩)] 188)).alloc (.cells #[.int .i64 0, .bool false, .int .i64 0, .int .i64 0] 98)).cell? ⟨bj, 3, none⟩ = some (.slice a1 fs.length p1) := cell_of_blk hJ2.str 3
  have hl1 := hJ.f.len
  have hl2 := hJ.c.len
  clear hJ hD A2 F2 hS hJ2 hD2
  go_enter Tryz.func168, Tryz.ntmps168
  go_wp2_with fail
  generalize hW2 : (w.alloc (.cells #[.pointer (some ⟨bj, 0, none⟩)] 188)).alloc (.cells #[.int .i64 0, .bool false, .int .i64 0, .int .i64 0] 98) = W2 at *
  clear c3 hW2
  go_loopw [16] (fun i wr => ∃ k : Nat, k ≤ fs.length ∧ i = .int .i64 k ∧ W2 = wr ∧ Hid (∀ j, (h : j < fs.length) → j < k → decide ((c.fa fs[j]).says = n) = false)) (fun i _ => fs.length - (intOf i).toNat)
  case atStart => exact ⟨0, Nat.zero_le _, rfl, rfl, Lib.hid fun j _ h => by omega⟩
  case round =>
    obtain ⟨k, hk, rfl, rfl, HP⟩ := hrel
    by_cases hlt : k < fs.length
    · obtain ⟨b1, o1, h1, hc1⟩ := HJ2.out.f.at_ (by simpa using (show 0 < fs.length by omega))
      subst h1
      have e0 := hc1 k (.int .i64 fs[k]) (by simp [hlt])
      have hsub := HJ2.out.fsub fs[k] (List.getElem_mem hlt)
      obtain ⟨ii, hii⟩ := Int.eq_ofNat_of_zero_le hsub.1
      have hil : ii < c.fas.length := by have := hsub.2; rw [hii] at this; exact Int.ofNat_lt.1 this
      obtain ⟨b2, o2, h2, hc2⟩ := HJ2.out.rb.fas.at_ (by simpa using (show 0 < c.fas.length by omega))
      subst h2
      have e1 := hc2 (ii * 6 + 1) _ ((flat_get (enc := faC) (k := 6) (fun _ => rfl) c.fas ii hil 1 (by omega)).trans rfl)
      simp only [← Nat.add_assoc] at e1
      have hfa : c.fa fs[k] = c.fas[ii] := by rw [hii]; simp [Rb.fa, hil]
      have g0 : W2.cell? ⟨w.heap.size, 0, none⟩ = some (.pointer (some ⟨bj, 0, none⟩)) := cell_of_blk HA.out.1 0
      have g2 : W2.cell? ⟨bj, 2, none⟩ = some (.slice (some ⟨b2, o2, none⟩) c.fas.length pf) := cell_of_blk HJ2.out.str 2
      have HPk : Hid (fs[k] = ii) := Lib.hid hii
      have HFA : Hid (c.fa fs[k] = c.fas[ii]) := Lib.hid hfa
      rw [hii] at e0
      have hfl := HJ2.out.rb.fas.len
      simp only at hfl
      clear hc1 hc2 hsub hfa hii
      by_cases hsy : (c.fas[ii]).says = n
      · have HSY := Lib.hid hsy
        rw [hsy] at e1
        have t0 : W2.cell? ⟨w.heap.size + 1, 0, none⟩ = some (.int .i64 0) := cell_of_blk HA.out.2 0
        have t1 : W2.cell? ⟨w.heap.size + 1, 1, none⟩ = some (.bool false) := cell_of_blk HA.out.2 1
        have t2 : W2.cell? ⟨w.heap.size + 1, 2, none⟩ = some (.int .i64 0) := cell_of_blk HA.out.2 2
        have t3 : W2.cell? ⟨w.heap.size + 1, 3, none⟩ = some (.int .i64 0) := cell_of_blk HA.out.2 3
        have z0 := free_of_blk HA.out.2 0
        have z1 := free_of_blk HA.out.2 1
        have z2 := free_of_blk HA.out.2 2
        have z3 := free_of_blk HA.out.2 3
        clear hsy
        go_wp2_with fail
        refine bodyPost_ret (v := .agg #[.int .i64 n, .bool true, .int .i64 ii, .int .i64 (-1)]) (by simp [results, Tryz.results168, go_sem, *]) rfl ⟨?_, D, ?_⟩
        · have hfind : fs.find? (fun i => decide ((c.fa i).says = n)) = some fs[k] := find_at hlt (by rw [HFA.out]; simpa using HSY.out) HP.out
          show _ = Ending.returned (fdV (fdOf c fs cs n))
          rw [hfd.out, findW, hfind, HPk.out]
        · have f3 : Fr [w.heap.size + 1] W2 ((((W2.setCell ⟨w.heap.size + 1, 0, none⟩ (.int .i64 n)).setCell ⟨w.heap.size + 1, 1, none⟩ (.bool true)).setCell ⟨w.heap.size + 1, 2, none⟩ (.int .i64 ii)).setCell ⟨w.heap.size + 1, 3, none⟩ (.int .i64 (-1))) := (((Fr.setCell _ _ (by simp)).trans (Fr.setCell _ _ (by simp))).trans (Fr.setCell _ _ (by simp))).trans (Fr.setCell _ _ (by simp))
          have f4 : Fr [] w _ := HF.out.step f3 (fun i hi => by simp at hi; exact .inr (by omega))
          exact (JM.refl HJ0.out HD0.out).same f4
      · have HSY : Hid (decide ((c.fa fs[k]).says = n) = false) := Lib.hid (by rw [HFA.out]; simpa using hsy)
        have hsd : ((c.fas[ii]).says == (n : Int)) = false := by simpa using hsy
        clear hsy
        generalize (c.fas[ii]).says = sy at *
        go_wp2_with fail
        go_roundw
        case rel =>
          refine ⟨k + 1, by omega, by go_num, by first | rfl | trivial, Lib.hid fun j hj hjk => ?_⟩
          rcases Nat.lt_or_ge j k with h5 | h5
          · exact HP.out j hj h5
          · obtain rfl : j = k := by omega
            exact HSY.out
        case measure => simp [intOf]; omega
    · obtain rfl : k = fs.length := by omega
      have Hnf : Hid (fs.find? (fun i => decide ((c.fa i).says = n)) = none) := Lib.hid (find_none fun j hj => HP.out j hj hj)
      have g0 : W2.cell? ⟨w.heap.size, 0, none⟩ = some (.pointer (some ⟨bj, 0, none⟩)) := cell_of_blk HA.out.1 0
      have g4 : W2.cell? ⟨bj, 4, none⟩ = some (.slice a2 cs.length p2) := cell_of_blk HJ2.out.str 4
      clear HP
      go_wp2_with fail
      clear g0 g4
      go_loopw [40] (fun i wr => ∃ (k : Nat) (D' : DataW Unit), k ≤ cs.length ∧ i = .int .i64 k ∧ Hid (JM ⟨bj, bm, .slice ac ys.length pc, vr, .slice af c.fas.length pf, .slice a1 fs.length p1, .slice a2 cs.length p2, ys, c, fs, cs⟩ n W2 D wr D') ∧ Hid (∀ j, (h : j < cs.length) → j < k → givesB c (soB c fs cs) n cs[j] = false)) (fun i _ => cs.length - (intOf i).toNat)
      case atStart => exact ⟨0, D, Nat.zero_le _, rfl, Lib.hid (JM.refl HJ2.out HD2.out), Lib.hid fun j _ h => by omega⟩
      case round =>
        obtain ⟨k, D', hk, rfl, HM, HP⟩ := hrel
        have hB0 := Lib.hid (HM.out.fr.keep HA.out.1 (by simp; omega))
        have hB1 := Lib.hid (HM.out.fr.keep HA.out.2 (by simp; omega))
        by_cases hlt : k < cs.length
        · obtain ⟨b1, o1, h1, hc1⟩ := HM.out.js.c.at_ (by simpa using (show 0 < cs.length by omega))
          subst h1
          have e0 := hc1 k (.int .i64 cs[k]) (by simp [hlt])
          have hmem := List.getElem_mem hlt
          have hsub := HM.out.js.csub cs[k] hmem
          have hterm := HM.out.js.good.terms cs[k] hmem
          obtain ⟨ii, hii⟩ := Int.eq_ofNat_of_zero_le hsub.1
          have hil : ii < ys.length := by have := hsub.2; rw [hii] at this; exact Int.ofNat_lt.1 this
          have heq : c.cls = ys.map (·.x) := HM.out.js.rb.eq
          have hcl : c.cl cs[k] = ys[ii].x := by rw [hii]; simp [Rb.cl, heq, hil]
          obtain ⟨b2, o2, h2, hc2⟩ := HM.out.js.rb.cls.sl.at_ (by simpa using (show 0 < ys.length by omega))
          subst h2
          have d0 := hc2 (ii * 6 + 0) _ ((flat_get (enc := clC) (k := 6) (fun _ => rfl) ys ii hil 0 (by omega)).trans rfl)
          have d1 := hc2 (ii * 6 + 1) _ ((flat_get (enc := clC) (k := 6) (fun _ => rfl) ys ii hil 1 (by omega)).trans rfl)
          have d2 := hc2 (ii * 6 + 2) _ ((flat_get (enc := clC) (k := 6) (fun _ => rfl) ys ii hil 2 (by omega)).trans rfl)
          have d3 := hc2 (ii * 6 + 3) _ ((flat_get (enc := clC) (k := 6) (fun _ => rfl) ys ii hil 3 (by omega)).trans rfl)
          have d4 := hc2 (ii * 6 + 4) _ ((flat_get (enc := clC) (k := 6) (fun _ => rfl) ys ii hil 4 (by omega)).trans rfl)
          have d5 := hc2 (ii * 6 + 5) _ ((flat_get (enc := clC) (k := 6) (fun _ => rfl) ys ii hil 5 (by omega)).trans rfl)
          simp only [Nat.add_zero, ← Nat.add_assoc] at d0 d1 d2 d3 d4 d5
          have HN := Lib.hid (HM.out.js.rb.cls.needs ys[ii] (List.getElem_mem hil))
          have HB := Lib.hid (HM.out.js.rb.cls.bars ys[ii] (List.getElem_mem hil))
          obtain ⟨an, pn, hvn⟩ := HN.out.val
          obtain ⟨ab, pb, hvb⟩ := HB.out.val
          have hgv : givesB c (soB c fs cs) n cs[k] = (decide ((ys[ii].x).gives = n) && (ys[ii].x).needs.all (soB c fs cs) && !(ys[ii].x).bars.any (soB c fs cs)) := by unfold givesB; rw [hcl]
          rw [hcl] at hterm
          have HPk : Hid (cs[k] = ii) := Lib.hid hii
          rw [hii] at e0
          clear hc1 hc2 hsub hcl hii heq hmem
          generalize ys[ii] = y at *
          obtain ⟨⟨pub, f, t, needs, bars, gives⟩, vn, vb⟩ := y
          simp only at d0 d1 d2 d3 d4 d5 hvn hvb HN HB hgv hterm
          subst hvn hvb
          have HGV := Lib.hid hgv; clear hgv
          have HTM := Lib.hid hterm; clear hterm
          have g0 : wr.cell? ⟨w.heap.size, 0, none⟩ = some (.pointer (some ⟨bj, 0, none⟩)) := cell_of_blk hB0.out 0
          have q0 : wr.cell? ⟨bj, 0, none⟩ = some (.slice (some ⟨b2, o2, none⟩) ys.length pc) := cell_of_blk HM.out.js.str 0
          have hyl := HM.out.js.rb.cls.sl.len
          by_cases hg : gives = n
          · subst hg
            have M3 := Lib.hid (HM.out.same (Fr.alloc [] wr (.cells #[.int .i64 pub, .int .i64 f, .int .i64 t, .slice an needs.length pn, .slice ab bars.length pb, .int .i64 n] 105)))
            have CN := Lib.hid (cf_needs _ n HS.out _ needs w.heap.size _ D' M3.out.js M3.out.found (HN.out.same (Fr.alloc [] _ _)) (fun m hm => HTM.out m (.inl hm)) (heap_alloc_old _ hB0.out) (by simp only; omega))
            have hbn : wr.heap.size ≠ bm := by have := HM.out.found.own.lt; simp only at this; omega
            have Kx := Lib.hid (heap_alloc_new wr (.cells #[.int .i64 pub, .int .i64 f, .int .i64 t, .slice an needs.length pn, .slice ab bars.length pb, .int .i64 n] 105))
            go_wp2_with fail
            refine CN.out.mono ?_
            rintro e w4 ⟨rfl, D4, m4⟩
            have M4 := Lib.hid (M3.out.trans m4 (Int.le_refl _))
            have K4 := m4.fr.keep Kx.out (by simpa using hbn)
            have hB04 := Lib.hid (m4.fr.keep (heap_alloc_old _ hB0.out) (by simp only [List.mem_singleton]; omega))
            have hB14 := Lib.hid (m4.fr.keep (heap_alloc_old _ hB1.out) (by simp only [List.mem_singleton]; omega))
            have HB4 := Lib.hid ((HB.out.same (Fr.alloc [] wr (.cells #[.int .i64 pub, .int .i64 f, .int .i64 t, .slice an needs.length pn, .slice ab bars.length pb, .int .i64 n] 105))).frM m4.fr M3.out.found.map)
            have r4 : w4.cell? ⟨wr.heap.size, 4, none⟩ = some (.slice ab bars.length pb) := cell_of_blk K4 4
            have s0 : w4.cell? ⟨w.heap.size, 0, none⟩ = some (.pointer (some ⟨bj, 0, none⟩)) := cell_of_blk hB04.out 0
            clear m4 K4
            cases hna : needs.all (soB c fs cs)
            · have Hpf : Hid (givesB c (soB c fs cs) n cs[k] = false) := Lib.hid (by rw [HGV.out]; simp [hna])
              have hna2 : needs.all (Jn.so ⟨bj, bm, .slice (some ⟨b2, o2, none⟩) ys.length pc, vr, .slice af c.fas.length pf, .slice a1 fs.length p1, .slice (some ⟨b1, o1, none⟩) cs.length p2, ys, c, fs, cs⟩) = false := hna
              rw [hna2]
              clear hna hna2
              go_wp2_with fail
              go_roundw
              case rel =>
                refine ⟨k + 1, _, by omega, by go_num, Lib.hid M4.out, Lib.hid fun j hj hjk => ?_⟩
                rcases Nat.lt_or_ge j k with h5 | h5
                · exact HP.out j hj h5
                · obtain rfl : j = k := by omega
                  exact Hpf.out
              case measure => simp [intOf]; omega
            · have hna2 : needs.all (Jn.so ⟨bj, bm, .slice (some ⟨b2, o2, none⟩) ys.length pc, vr, .slice af c.fas.length pf, .slice a1 fs.length p1, .slice (some ⟨b1, o1, none⟩) cs.length p2, ys, c, fs, cs⟩) = true := hna
              rw [hna2]
              have HNA := Lib.hid hna
              clear hna hna2
              have CB := Lib.hid (cf_bars _ n HS.out _ bars w4 D4 M4.out.js M4.out.found HB4.out (fun m hm => HTM.out m (.inr hm)))
              go_wp2_with fail
              refine CB.out.mono ?_
              rintro e w5 ⟨rfl, D5, m5⟩
              have M5 := Lib.hid (M4.out.trans m5 (Int.le_refl _))
              have hB15 := Lib.hid (m5.fr.keep hB14.out (by simp only [List.mem_singleton]; omega))
              clear m5
              cases hba : bars.any (soB c fs cs)
              · have hba2 : bars.any (Jn.so ⟨bj, bm, .slice (some ⟨b2, o2, none⟩) ys.length pc, vr, .slice af c.fas.length pf, .slice a1 fs.length p1, .slice (some ⟨b1, o1, none⟩) cs.length p2, ys, c, fs, cs⟩) = false := hba
                rw [hba2]
                have Hpt : Hid (givesB c (soB c fs cs) n cs[k] = true) := Lib.hid (by rw [HGV.out]; simp [HNA.out, hba])
                clear hba hba2
                have t0 : w5.cell? ⟨w.heap.size + 1, 0, none⟩ = some (.int .i64 0) := cell_of_blk hB15.out 0
                have t1 : w5.cell? ⟨w.heap.size + 1, 1, none⟩ = some (.bool false) := cell_of_blk hB15.out 1
                have t2 : w5.cell? ⟨w.heap.size + 1, 2, none⟩ = some (.int .i64 0) := cell_of_blk hB15.out 2
                have t3 : w5.cell? ⟨w.heap.size + 1, 3, none⟩ = some (.int .i64 0) := cell_of_blk hB15.out 3
                have z0 := free_of_blk hB15.out 0
                have z1 := free_of_blk hB15.out 1
                have z2 := free_of_blk hB15.out 2
                have z3 := free_of_blk hB15.out 3
                go_wp2_with fail
                refine bodyPost_ret (v := .agg #[.int .i64 n, .bool true, .int .i64 (-1), .int .i64 ii]) (by simp [results, Tryz.results168, go_sem, *]) rfl ⟨?_, D5, ?_⟩
                · have hfind : cs.find? (givesB c (soB c fs cs) n) = some cs[k] := find_at hlt Hpt.out HP.out
                  show _ = Ending.returned (fdV (fdOf c fs cs n))
                  rw [hfd.out, findW, Hnf.out, hfind, HPk.out]
                · exact findEnd HF.out HJ0.out HD0.out M5.out (by simp) (by simp only; omega) _ _ _ _
              · have hba2 : bars.any (Jn.so ⟨bj, bm, .slice (some ⟨b2, o2, none⟩) ys.length pc, vr, .slice af c.fas.length pf, .slice a1 fs.length p1, .slice (some ⟨b1, o1, none⟩) cs.length p2, ys, c, fs, cs⟩) = true := hba
                rw [hba2]
                have Hpf : Hid (givesB c (soB c fs cs) n cs[k] = false) := Lib.hid (by rw [HGV.out]; simp [hba])
                clear hba hba2
                go_wp2_with fail
                go_roundw
                case rel =>
                  refine ⟨k + 1, _, by omega, by go_num, Lib.hid M5.out, Lib.hid fun j hj hjk => ?_⟩
                  rcases Nat.lt_or_ge j k with h5 | h5
                  · exact HP.out j hj h5
                  · obtain rfl : j = k := by omega
                    exact Hpf.out
                case measure => simp [intOf]; omega
          · have hgd : (gives == (n : Int)) = false := by simpa using hg
            have Hpf : Hid (givesB c (soB c fs cs) n cs[k] = false) := Lib.hid (by rw [HGV.out]; simp [hg])
            clear hg
            go_wp2_with fail
            go_roundw
            case rel =>
              refine ⟨k + 1, D', by omega, by go_num, Lib.hid (HM.out.same (Fr.alloc _ _ _)), Lib.hid fun j hj hjk => ?_⟩
              rcases Nat.lt_or_ge j k with h5 | h5
              · exact HP.out j hj h5
              · obtain rfl : j = k := by omega
                exact Hpf.out
            case measure => simp [intOf]; omega
        · obtain rfl : k = cs.length := by omega
          have t0 : wr.cell? ⟨w.heap.size + 1, 0, none⟩ = some (.int .i64 0) := cell_of_blk hB1.out 0
          have t1 : wr.cell? ⟨w.heap.size + 1, 1, none⟩ = some (.bool false) := cell_of_blk hB1.out 1
          have t2 : wr.cell? ⟨w.heap.size + 1, 2, none⟩ = some (.int .i64 0) := cell_of_blk hB1.out 2
          have t3 : wr.cell? ⟨w.heap.size + 1, 3, none⟩ = some (.int .i64 0) := cell_of_blk hB1.out 3
          have z0 := free_of_blk hB1.out 0
          have z1 := free_of_blk hB1.out 1
          have z2 := free_of_blk hB1.out 2
          have z3 := free_of_blk hB1.out 3
          go_wp2_with fail
          refine bodyPost_ret (v := .agg #[.int .i64 n, .bool false, .int .i64 (-1), .int .i64 (-1)]) (by simp [results, Tryz.results168, go_sem, *]) rfl ⟨?_, D', ?_⟩
          · have hfind : cs.find? (givesB c (soB c fs cs) n) = none := find_none fun j hj => HP.out j hj hj
            show _ = Ending.returned (fdV (fdOf c fs cs n))
            rw [hfd.out, findW, Hnf.out, hfind]
          · exact findEnd HF.out HJ0.out HD0.out HM.out (by simp) (by simp only; omega) _ _ _ _

end Go.Proofs.YtahfpadaoobkfaaGreatDoor

/-
  statute: so for every number; slices.Contains; the predicates of isRight.
-/
namespace Go.Proofs.YtahfpadaoobkfaaGreatDoor
open Go.RowKit Go.Lib Go.Maps

theorem so_ok (J : Jn) (n : Nat) (hn : n < 20) : SoOk J n := by
  induction n using Nat.strongRecOn with
  | ind n ih =>
    refine so_of_find J n hn (find_of_so J n fun m h0 h1 => ?_)
    obtain ⟨k, rfl⟩ := Int.eq_ofNat_of_zero_le h0
    exact ih k (by omega) (by omega)

set_option maxRecDepth 100000 in
set_option maxHeartbeats 1000000 in
theorem indexInt_c (v : Value) (zs : List Int) (x : Int) (w : World) (h : IntsAt w v zs) :
    Calls Tryz.prog 175 #[v, .int .i64 x] w fun e w' => e = .returned (.int .i64 (idxN (fun k => x == zs.getD k 0) zs.length)) ∧ w = w' := by
  obtain ⟨a, cap, rfl⟩ := h.val
  have hlen := h.len
  have HS := Lib.hid h; clear h
  go_enter Tryz.func175, Tryz.ntmps175
  go_wp2_with fail
  go_loopw [8] (fun i wr => ∃ k : Nat, k ≤ zs.length ∧ i = .int .i64 k ∧ w = wr ∧ Hid (∀ j, j < k → (x == zs.getD j 0) = false)) (fun i _ => zs.length - (intOf i).toNat)
  case atStart => exact ⟨0, Nat.zero_le _, rfl, rfl, Lib.hid fun j h => by omega⟩
  case round =>
    obtain ⟨k, hk, rfl, rfl, HP⟩ := hrel
    by_cases hlt : k < zs.length
    · obtain ⟨b, off, ha, hc⟩ := HS.out.at_ (by omega)
      subst ha
      have c0 := hc k (.int .i64 (zs.getD k 0)) (by simp [hlt])
      clear hc
      cases hb : (x == zs.getD k 0) with
      | true =>
        have HI : Hid (idxN (fun k => x == zs.getD k 0) zs.length = k) := Lib.hid (idxN_some hlt hb HP.out)
        obtain ⟨y, hy⟩ : ∃ y, y = zs.getD k 0 := ⟨_, rfl⟩
        rw [← hy] at c0 hb
        clear hy
        go_wp2_with fail
        go_ret
        exact ⟨by rw [HI.out]; rfl, rfl⟩
      | false =>
        have Hb0 := Lib.hid hb
        have HN : Hid (∀ j, j < k + 1 → (x == zs.getD j 0) = false) := Lib.hid fun j h => by
          rcases Nat.lt_or_ge j k with h1 | h1
          · exact HP.out j h1
          · obtain rfl : j = k := by omega
            exact Hb0.out
        clear Hb0
        obtain ⟨y, hy⟩ : ∃ y, y = zs.getD k 0 := ⟨_, rfl⟩
        rw [← hy] at c0 hb
        clear hy
        go_wp2_with fail
        go_roundw
        case rel => exact ⟨k + 1, by omega, by go_num, by first | rfl | trivial, HN⟩
        case measure => simp [intOf]; omega
    · obtain rfl : k = zs.length := by omega
      go_wp2_with fail
      go_ret
      exact ⟨by rw [idxN_none HP.out]; rfl, rfl⟩

theorem contains_any (l : List Int) (x : Int) : l.any (fun y => x == y) = l.contains x := by
  induction l with
  | nil => rfl
  | cons a l ih => rw [List.any_cons, List.contains_cons, ih]
theorem contInt_c (v : Value) (zs : List Int) (x : Int) (w : World) (h : IntsAt w v zs) :
    Calls Tryz.prog 157 #[v, .int .i64 x] w fun e w' => e = .returned (.bool (zs.contains x)) ∧ w = w' := by
  have c := Lib.hid (indexInt_c v zs x w h)
  rw [← contains_any, ← anyN_list zs (fun y => x == y) 0, ← idxN_ge]
  generalize idxN (fun k => x == zs.getD k 0) zs.length = r at *
  clear h
  go_enter Tryz.func157, Tryz.ntmps157
  go_wp2_with (go_at_call 175; refine c.out.mono ?_; rintro e w1 ⟨rfl, rfl⟩)
  go_ret
  exact ⟨rfl, rfl⟩

/-- The variables that isRight's predicates lean on. -/
structure REnv (J : Jn) (B3 B4 B5 B7 B8 : Nat) (x : Fd) (vl : Value) (l : List Fd) (w : World) : Prop where
  h3 : w.heap[B3]? = some (.cells #[.pointer (some ⟨J.bj, 0, none⟩)] 188 (0, 0))
  h4 : w.heap[B4]? = some (.cells #[.int .i64 x.says, .bool x.holds, .int .i64 x.fact, .int .i64 x.cl] 98 (0, 0))
  h5 : w.heap[B5]? = some (.cells #[vl] 96 (0, 0))
  h7 : w.heap[B7]? = some (.cells #[.func (.func 151) #[] #[.pointer (some ⟨B5, 0, none⟩)]] 250 (0, 0))
  h8 : w.heap[B8]? = some (.cells #[.func (.func 154) #[] #[.pointer (some ⟨B3, 0, none⟩), .pointer (some ⟨B7, 0, none⟩)]] 116 (0, 0))
  js : JS J w
  sl : Sl w vl l.length (l.flatMap fdC)
theorem REnv.same {J : Jn} {B3 B4 B5 B7 B8 : Nat} {x : Fd} {vl : Value} {l : List Fd} {w w' : World} (h : REnv J B3 B4 B5 B7 B8 x vl l w) (hf : Fr [] w w') : REnv J B3 B4 B5 B7 B8 x vl l w' :=
  ⟨hf.keep h.h3 (by simp), hf.keep h.h4 (by simp), hf.keep h.h5 (by simp), hf.keep h.h7 (by simp), hf.keep h.h8 (by simp), h.js.same hf, h.sl.same hf⟩

set_option maxRecDepth 100000 in
set_option maxHeartbeats 1000000 in
theorem right11_c (y : Fd) (Bn Bh : Nat) (n : Int) (h : Bool) (w : World) (hn : w.heap[Bn]? = some (.cells #[.int .i64 n] 3 (0, 0))) (hh : w.heap[Bh]? = some (.cells #[.bool h] 4 (0, 0))) :
    Calls Tryz.prog 153 #[fdV y, .pointer (some ⟨Bn, 0, none⟩), .pointer (some ⟨Bh, 0, none⟩)] w fun e w' => e = .returned (.bool (decide (y.says = n) && y.holds == h)) ∧ Fr [] w w' := by
  obtain ⟨y0, y1, y2, y3⟩ := y
  have k1 := heap_alloc_old (.cells #[.int .i64 y0, .bool y1, .int .i64 y2, .int .i64 y3] 98) hn
  have k2 := heap_alloc_old (.cells #[.int .i64 y0, .bool y1, .int .i64 y2, .int .i64 y3] 98) hh
  have c1 : (w.alloc (.cells #[.int .i64 y0, .bool y1, .int .i64 y2, .int .i64 y3] 98)).cell? ⟨Bn, 0, none⟩ = some (.int .i64 n) := cell_of_blk k1 0
  have c2 : (w.alloc (.cells #[.int .i64 y0, .bool y1, .int .i64 y2, .int .i64 y3] 98)).cell? ⟨Bh, 0, none⟩ = some (.bool h) := cell_of_blk k2 0
  clear k1 k2 hn hh
  unfold fdV
  simp only
  by_cases h1 : y0 = n
  · subst h1
    go_enter Tryz.func153, Tryz.ntmps153
    go_wp2_with fail
    go_ret
    exact ⟨by simp, Fr.alloc _ _ _⟩
  · go_enter Tryz.func153, Tryz.ntmps153
    go_wp2_with fail
    go_ret
    exact ⟨by simp [h1], Fr.alloc _ _ _⟩

set_option maxRecDepth 100000 in
set_option maxHeartbeats 1000000 in
set_option maxRecDepth 100000 in
theorem right1_c (B5 : Nat) (vl : Value) (l : List Fd) (n : Int) (h : Bool) (w : World) (h5 : w.heap[B5]? = some (.cells #[vl] 96 (0, 0))) (hs : Sl w vl l.length (l.flatMap fdC)) :
    Calls Tryz.prog 151 #[.int .i64 n, .bool h, .pointer (some ⟨B5, 0, none⟩)] w fun e w' => e = .returned (.bool (findsB l n h)) ∧ Fr [] w w' := by
  obtain ⟨a, cap, rfl⟩ := hs.val
  have A2 := alloc2' w (.cells #[.int .i64 n] 3) (.cells #[.bool h] 4)
  have F2 : Fr [] w ((w.alloc (.cells #[.int .i64 n] 3)).alloc (.cells #[.bool h] 4)) := (Fr.alloc _ _ _).trans (Fr.alloc _ _ _)
  have c5 : ((w.alloc (.cells #[.int .i64 n] 3)).alloc (.cells #[.bool h] 4)).cell? ⟨B5, 0, none⟩ = some (.slice a l.length cap) := cell_of_blk (F2.keep h5 (by simp)) 0
  have CC : Hid (Calls Tryz.prog 152 #[.slice a l.length cap, .func (.func 153) #[] #[.pointer (some ⟨w.heap.size, 0, none⟩), .pointer (some ⟨w.heap.size + 1, 0, none⟩)]] ((w.alloc (.cells #[.int .i64 n] 3)).alloc (.cells #[.bool h] 4)) fun e w' => e = .returned (.bool (findsB l n h)) ∧ Fr [] w w') := Lib.hid (by
    refine (cfFd_c 153 _ (fun _ _ => rfl) a cap l (fun k => decide ((l.getD k default).says = n) && (l.getD k default).holds == h) (fun _ W => Fr [] ((w.alloc (.cells #[.int .i64 n] 3)).alloc (.cells #[.bool h] 4)) W) _ (fun k W hJ => hs.same (F2.trans hJ)) ?_ (Fr.refl _ _)).mono ?_
    · intro k W hk _ hJ
      refine (right11_c (l.getD k default) _ _ n h W (hJ.keep A2.1 (by simp)) (hJ.keep A2.2 (by simp))).mono ?_
      rintro e w' ⟨rfl, f⟩
      exact ⟨rfl, hJ.trans f⟩
    · rintro e w' ⟨rfl, k, hJ⟩
      exact ⟨by rw [anyN_list l (fun y => decide (y.says = n) && y.holds == h) default]; rfl, F2.trans hJ⟩)
  clear h5 hs A2 F2
  go_enter Tryz.func151, Tryz.ntmps151
  go_wp2_with (first | (go_at_call 152; refine CC.out.mono ?_; rintro e w1 ⟨rfl, f1⟩; have F1 := Lib.hid f1; clear f1))
  go_ret
  exact ⟨rfl, F1.out⟩

end Go.Proofs.YtahfpadaoobkfaaGreatDoor

/-
  statute: the predicates of isRight, second part.
-/
namespace Go.Proofs.YtahfpadaoobkfaaGreatDoor
open Go.RowKit Go.Lib Go.Maps

set_option maxRecDepth 100000 in
theorem right3_c {J : Jn} {B3 B4 B5 B7 B8 : Nat} {x : Fd} {vl : Value} {l : List Fd} (n : Int) (w : World) (h : REnv J B3 B4 B5 B7 B8 x vl l w) :
    Calls Tryz.prog 158 #[.int .i64 n, .pointer (some ⟨B7, 0, none⟩)] w fun e w' => e = .returned (.bool (!findsB l n true)) ∧ Fr [] w w' := by
  have c7 : w.cell? ⟨B7, 0, none⟩ = some (.func (.func 151) #[] #[.pointer (some ⟨B5, 0, none⟩)]) := cell_of_blk h.h7 0
  have C := Lib.hid (right1_c B5 vl l n true w h.h5 h.sl)
  clear h
  go_enter Tryz.func158, Tryz.ntmps158
  go_wp2_with (first | (go_at_call 151; refine C.out.mono ?_; rintro e w1 ⟨rfl, f1⟩; have F1 := Lib.hid f1; clear f1))
  go_ret
  exact ⟨rfl, F1.out⟩
set_option maxRecDepth 100000 in
theorem cf_right3 {J : Jn} {B3 B4 B5 B7 B8 : Nat} {x : Fd} {vl : Value} {l : List Fd} (v : Value) (zs : List Int) (w : World) (h : REnv J B3 B4 B5 B7 B8 x vl l w) (hz : IntsAt w v zs) :
    Calls Tryz.prog 43 #[v, .func (.func 158) #[] #[.pointer (some ⟨B7, 0, none⟩)]] w fun e w' => e = .returned (.bool (zs.any fun n => !findsB l n true)) ∧ Fr [] w w' := by
  obtain ⟨a, cap, rfl⟩ := hz.val
  refine (cfInt_c 158 #[.pointer (some ⟨B7, 0, none⟩)] (fun _ _ => rfl) a cap zs (fun k => (fun n => !findsB l n true) (zs.getD k 0)) (fun _ W => Fr [] w W) w (fun k W hJ => hz.same hJ) ?_ (Fr.refl _ _)).mono ?_
  · intro k W hk _ hJ
    refine (right3_c (zs.getD k 0) W (h.same hJ)).mono ?_
    rintro e w' ⟨rfl, f⟩
    exact ⟨rfl, hJ.trans f⟩
  · rintro e w' ⟨rfl, k, hJ⟩
    exact ⟨by rw [anyN_list zs (fun n => !findsB l n true) 0], hJ⟩

set_option maxRecDepth 100000 in
theorem right4_c {J : Jn} {B3 B4 B5 B7 B8 : Nat} {x : Fd} {vl : Value} {l : List Fd} (n : Int) (w : World) (h : REnv J B3 B4 B5 B7 B8 x vl l w) :
    Calls Tryz.prog 159 #[.int .i64 n, .pointer (some ⟨B7, 0, none⟩)] w fun e w' => e = .returned (.bool (!findsB l n false)) ∧ Fr [] w w' := by
  have c7 : w.cell? ⟨B7, 0, none⟩ = some (.func (.func 151) #[] #[.pointer (some ⟨B5, 0, none⟩)]) := cell_of_blk h.h7 0
  have C := Lib.hid (right1_c B5 vl l n false w h.h5 h.sl)
  clear h
  go_enter Tryz.func159, Tryz.ntmps159
  go_wp2_with (first | (go_at_call 151; refine C.out.mono ?_; rintro e w1 ⟨rfl, f1⟩; have F1 := Lib.hid f1; clear f1))
  go_ret
  exact ⟨rfl, F1.out⟩
set_option maxRecDepth 100000 in
theorem cf_right4 {J : Jn} {B3 B4 B5 B7 B8 : Nat} {x : Fd} {vl : Value} {l : List Fd} (v : Value) (zs : List Int) (w : World) (h : REnv J B3 B4 B5 B7 B8 x vl l w) (hz : IntsAt w v zs) :
    Calls Tryz.prog 43 #[v, .func (.func 159) #[] #[.pointer (some ⟨B7, 0, none⟩)]] w fun e w' => e = .returned (.bool (zs.any fun n => !findsB l n false)) ∧ Fr [] w w' := by
  obtain ⟨a, cap, rfl⟩ := hz.val
  refine (cfInt_c 159 #[.pointer (some ⟨B7, 0, none⟩)] (fun _ _ => rfl) a cap zs (fun k => (fun n => !findsB l n false) (zs.getD k 0)) (fun _ W => Fr [] w W) w (fun k W hJ => hz.same hJ) ?_ (Fr.refl _ _)).mono ?_
  · intro k W hk _ hJ
    refine (right4_c (zs.getD k 0) W (h.same hJ)).mono ?_
    rintro e w' ⟨rfl, f⟩
    exact ⟨rfl, hJ.trans f⟩
  · rintro e w' ⟨rfl, k, hJ⟩
    exact ⟨by rw [anyN_list zs (fun n => !findsB l n false) 0], hJ⟩

set_option maxRecDepth 100000 in
theorem right21_c {J : Jn} {B3 B4 B5 B7 B8 : Nat} {x : Fd} {vl : Value} {l : List Fd} (n : Int) (w : World) (h : REnv J B3 B4 B5 B7 B8 x vl l w) :
    Calls Tryz.prog 155 #[.int .i64 n, .pointer (some ⟨B7, 0, none⟩)] w fun e w' => e = .returned (.bool (findsB l n false)) ∧ Fr [] w w' := by
  have c7 : w.cell? ⟨B7, 0, none⟩ = some (.func (.func 151) #[] #[.pointer (some ⟨B5, 0, none⟩)]) := cell_of_blk h.h7 0
  have C := Lib.hid (right1_c B5 vl l n false w h.h5 h.sl)
  clear h
  go_enter Tryz.func155, Tryz.ntmps155
  go_wp2_with (first | (go_at_call 151; refine C.out.mono ?_; rintro e w1 ⟨rfl, f1⟩; have F1 := Lib.hid f1; clear f1))
  go_ret
  exact ⟨rfl, F1.out⟩
set_option maxRecDepth 100000 in
theorem cf_right21 {J : Jn} {B3 B4 B5 B7 B8 : Nat} {x : Fd} {vl : Value} {l : List Fd} (v : Value) (zs : List Int) (w : World) (h : REnv J B3 B4 B5 B7 B8 x vl l w) (hz : IntsAt w v zs) :
    Calls Tryz.prog 43 #[v, .func (.func 155) #[] #[.pointer (some ⟨B7, 0, none⟩)]] w fun e w' => e = .returned (.bool (zs.any fun n => findsB l n false)) ∧ Fr [] w w' := by
  obtain ⟨a, cap, rfl⟩ := hz.val
  refine (cfInt_c 155 #[.pointer (some ⟨B7, 0, none⟩)] (fun _ _ => rfl) a cap zs (fun k => (fun n => findsB l n false) (zs.getD k 0)) (fun _ W => Fr [] w W) w (fun k W hJ => hz.same hJ) ?_ (Fr.refl _ _)).mono ?_
  · intro k W hk _ hJ
    refine (right21_c (zs.getD k 0) W (h.same hJ)).mono ?_
    rintro e w' ⟨rfl, f⟩
    exact ⟨rfl, hJ.trans f⟩
  · rintro e w' ⟨rfl, k, hJ⟩
    exact ⟨by rw [anyN_list zs (fun n => findsB l n false) 0], hJ⟩

set_option maxRecDepth 100000 in
theorem right22_c {J : Jn} {B3 B4 B5 B7 B8 : Nat} {x : Fd} {vl : Value} {l : List Fd} (n : Int) (w : World) (h : REnv J B3 B4 B5 B7 B8 x vl l w) :
    Calls Tryz.prog 156 #[.int .i64 n, .pointer (some ⟨B7, 0, none⟩)] w fun e w' => e = .returned (.bool (findsB l n true)) ∧ Fr [] w w' := by
  have c7 : w.cell? ⟨B7, 0, none⟩ = some (.func (.func 151) #[] #[.pointer (some ⟨B5, 0, none⟩)]) := cell_of_blk h.h7 0
  have C := Lib.hid (right1_c B5 vl l n true w h.h5 h.sl)
  clear h
  go_enter Tryz.func156, Tryz.ntmps156
  go_wp2_with (first | (go_at_call 151; refine C.out.mono ?_; rintro e w1 ⟨rfl, f1⟩; have F1 := Lib.hid f1; clear f1))
  go_ret
  exact ⟨rfl, F1.out⟩
set_option maxRecDepth 100000 in
theorem cf_right22 {J : Jn} {B3 B4 B5 B7 B8 : Nat} {x : Fd} {vl : Value} {l : List Fd} (v : Value) (zs : List Int) (w : World) (h : REnv J B3 B4 B5 B7 B8 x vl l w) (hz : IntsAt w v zs) :
    Calls Tryz.prog 43 #[v, .func (.func 156) #[] #[.pointer (some ⟨B7, 0, none⟩)]] w fun e w' => e = .returned (.bool (zs.any fun n => findsB l n true)) ∧ Fr [] w w' := by
  obtain ⟨a, cap, rfl⟩ := hz.val
  refine (cfInt_c 156 #[.pointer (some ⟨B7, 0, none⟩)] (fun _ _ => rfl) a cap zs (fun k => (fun n => findsB l n true) (zs.getD k 0)) (fun _ W => Fr [] w W) w (fun k W hJ => hz.same hJ) ?_ (Fr.refl _ _)).mono ?_
  · intro k W hk _ hJ
    refine (right22_c (zs.getD k 0) W (h.same hJ)).mono ?_
    rintro e w' ⟨rfl, f⟩
    exact ⟨rfl, hJ.trans f⟩
  · rintro e w' ⟨rfl, k, hJ⟩
    exact ⟨by rw [anyN_list zs (fun n => findsB l n true) 0], hJ⟩

set_option maxRecDepth 100000 in
set_option maxHeartbeats 2000000 in
theorem right2_c {J : Jn} {B3 B4 B5 B7 B8 : Nat} {x : Fd} {vl : Value} {l : List Fd} (i : Int) (w : World) (h : REnv J B3 B4 B5 B7 B8 x vl l w) (hi : i ∈ J.cs) :
    Calls Tryz.prog 154 #[.int .i64 i, .pointer (some ⟨B3, 0, none⟩), .pointer (some ⟨B7, 0, none⟩)] w fun e w' => e = .returned (.bool (barredB J.c l i)) ∧ Fr [] w w' := by
  have hsub := h.js.csub i hi
  obtain ⟨ii, rfl⟩ := Int.eq_ofNat_of_zero_le hsub.1
  have hil : ii < J.ys.length := by omega
  have heq : J.c.cls = J.ys.map (·.x) := h.js.rb.eq
  have hcl : J.c.cl ii = J.ys[ii].x := by simp [Rb.cl, heq, hil]
  have hbar : barredB J.c l ii = ((J.ys[ii].x).needs.any (fun n => findsB l n false) || (J.ys[ii].x).bars.any (fun n => findsB l n true)) := by unfold barredB; rw [hcl]
  rw [hbar]
  obtain ⟨ac, pc, hvc⟩ := h.js.rb.cls.sl.val
  have hsl := h.js.rb.cls.sl
  rw [hvc] at hsl
  obtain ⟨b2, o2, h2, hc2⟩ := hsl.at_ (by omega)
  subst h2
  have d0 := hc2 (ii * 6 + 0) _ ((flat_get (enc := clC) (k := 6) (fun _ => rfl) J.ys ii hil 0 (by omega)).trans rfl)
  have d1 := hc2 (ii * 6 + 1) _ ((flat_get (enc := clC) (k := 6) (fun _ => rfl) J.ys ii hil 1 (by omega)).trans rfl)
  have d2 := hc2 (ii * 6 + 2) _ ((flat_get (enc := clC) (k := 6) (fun _ => rfl) J.ys ii hil 2 (by omega)).trans rfl)
  have d3 := hc2 (ii * 6 + 3) _ ((flat_get (enc := clC) (k := 6) (fun _ => rfl) J.ys ii hil 3 (by omega)).trans rfl)
  have d4 := hc2 (ii * 6 + 4) _ ((flat_get (enc := clC) (k := 6) (fun _ => rfl) J.ys ii hil 4 (by omega)).trans rfl)
  have d5 := hc2 (ii * 6 + 5) _ ((flat_get (enc := clC) (k := 6) (fun _ => rfl) J.ys ii hil 5 (by omega)).trans rfl)
  simp only [Nat.add_zero, ← Nat.add_assoc] at d0 d1 d2 d3 d4 d5
  have HN := Lib.hid (h.js.rb.cls.needs J.ys[ii] (List.getElem_mem hil))
  have HB := Lib.hid (h.js.rb.cls.bars J.ys[ii] (List.getElem_mem hil))
  obtain ⟨an, pn, hvn⟩ := HN.out.val
  obtain ⟨ab, pb, hvb⟩ := HB.out.val
  have c3 : w.cell? ⟨B3, 0, none⟩ = some (.pointer (some ⟨J.bj, 0, none⟩)) := cell_of_blk h.h3 0
  have q0 : w.cell? ⟨J.bj, 0, none⟩ = some (.slice (some ⟨b2, o2, none⟩) J.ys.length pc) := by rw [← hvc]; exact cell_of_blk h.js.str 0
  have hyl := h.js.rb.cls.sl.len
  clear hc2 hsl hbar hcl heq hsub
  generalize J.ys[ii] = y at *
  obtain ⟨⟨pub, f, t, needs, bars, gives⟩, vn, vb⟩ := y
  simp only at d0 d1 d2 d3 d4 d5 hvn hvb HN HB ⊢
  subst hvn hvb
  have R1 := Lib.hid (h.same (Fr.alloc [] w (.cells #[.int .i64 pub, .int .i64 f, .int .i64 t, .slice an needs.length pn, .slice ab bars.length pb, .int .i64 gives] 105)))
  have KX := Lib.hid (heap_alloc_new w (.cells #[.int .i64 pub, .int .i64 f, .int .i64 t, .slice an needs.length pn, .slice ab bars.length pb, .int .i64 gives] 105))
  have CN := Lib.hid (cf_right21 _ needs _ R1.out (HN.out.same (Fr.alloc _ _ _)))
  clear h
  go_enter Tryz.func154, Tryz.ntmps154
  go_wp2_with fail
  refine CN.out.mono ?_
  rintro e w1 ⟨rfl, f1⟩
  have K1 := f1.keep KX.out (by simp)
  have r4 : w1.cell? ⟨w.heap.size, 4, none⟩ = some (.slice ab bars.length pb) := cell_of_blk K1 4
  have F1 := Lib.hid ((Fr.alloc [] _ _).trans f1)
  have CB := Lib.hid (cf_right22 _ bars _ (R1.out.same f1) (HB.out.same F1.out))
  clear K1 f1
  cases hb : needs.any (fun n => findsB l n false)
  · go_wp2_with fail
    refine CB.out.mono ?_
    rintro e w2 ⟨rfl, f2⟩
    have F2 := Lib.hid (F1.out.trans f2); clear f2
    go_wp2_with fail
    go_ret
    exact ⟨by rw [hb, Bool.false_or]; rfl, F2.out⟩
  · go_wp2_with fail
    go_ret
    exact ⟨by rw [hb, Bool.true_or]; rfl, F1.out⟩

end Go.Proofs.YtahfpadaoobkfaaGreatDoor
