/-
  dialtonelaw08: few.
-/
import Derived.Test.YtfidioedjmjddaaGreatQL8
namespace Go.Proofs.YtfidioedjmjddaaGreat
open Go.RowKit Go.Lib

theorem Sl.cut {w : World} {a : Option Addr} {n m cap : Nat} {cs cs' : List Value} (h : Sl w (.slice a n cap) n cs) (hm : m ≤ n) (hc : ∀ (j : Nat) (u : Value), cs'[j]? = some u → cs[j]? = some u) : Sl w (.slice a m cap) m cs' := by
  obtain ⟨_, _, hv, h1, h2, h3⟩ := h
  cases hv
  refine ⟨_, _, rfl, by omega, h2, fun h0 => ?_⟩
  obtain ⟨b, off, hb, hcell⟩ := h3 (by omega)
  exact ⟨b, off, hb, fun j u hu => hcell j u (hc j u hu)⟩
theorem Sl.cap {w : World} {a : Option Addr} {n m cap : Nat} {cs : List Value} (h : Sl w (.slice a n cap) m cs) : n ≤ cap ∧ cap ≤ 9223372036854775807 := by
  obtain ⟨_, _, hv, h1, h2, _⟩ := h
  cases hv
  exact ⟨h1, h2⟩
theorem flat_sub {α : Type} {enc : α → List Value} : ∀ (l : List α) (m j : Nat) (u : Value), ((l.take m).flatMap enc)[j]? = some u → (l.flatMap enc)[j]? = some u
  | [], m, j, u, h => by simp at h
  | x :: l, 0, j, u, h => by simp at h
  | x :: l, m + 1, j, u, h => by
    simp only [List.take_succ_cons, List.flatMap_cons] at h ⊢
    rcases Nat.lt_or_ge j (enc x).length with hj | hj
    · rw [List.getElem?_append_left hj] at h ⊢; exact h
    · rw [List.getElem?_append_right hj] at h ⊢; exact flat_sub l m _ u h
theorem take_len {α : Type} {l : List α} {m : Nat} (h : m ≤ l.length) : (l.take m).length = m := by simp; omega
theorem IntsAt.cut {w : World} {a : Option Addr} {m cap : Nat} {l : List Int} (h : IntsAt w (.slice a l.length cap) l) (hm : m ≤ l.length) : IntsAt w (.slice a m cap) (l.take m) := by
  have e : (l.take m).length = m := take_len hm
  unfold IntsAt
  rw [e]
  exact Sl.cut h hm fun j u hu => by
    simp only [intC, List.getElem?_map, List.getElem?_take] at hu ⊢
    split at hu
    · exact hu
    · simp at hu
theorem Sl.rows {α : Type} {enc : α → List Value} {w : World} {a : Option Addr} {m cap : Nat} {l : List α} (h : Sl w (.slice a l.length cap) l.length (l.flatMap enc)) (hm : m ≤ l.length) : Sl w (.slice a m cap) (l.take m).length ((l.take m).flatMap enc) := by
  rw [take_len hm]
  exact h.cut hm fun j u hu => flat_sub l m j u hu

/-- few under way. -/
structure FewS (w : World) (v1 v2 v3 oc : Value) (zs : List ClV) (W : World) : Prop where
  fr : Fr [] w W
  b1 : W.heap[w.heap.size]? = some (.cells #[v1, v2, v3] 30 (0, 0))
  b2 : W.heap[w.heap.size + 1]? = some (.cells #[.slice none 0 0, .slice none 0 0, .slice none 0 0] 30 (0, 0))
  b3 : W.heap[w.heap.size + 1 + 1]? = some (.cells #[oc, .slice none 0 0, .slice none 0 0] 30 (0, 0))
  row : W.ownsRow 0 67 6 oc zs.length (zs.flatMap clC)
  new : ∀ g, oc.ownBlock = some g → w.heap.size + 3 ≤ g
  terms : ∀ y, y ∈ zs → IntsAt w y.vn y.x.needs ∧ IntsAt w y.vb y.x.bars ∧ ClOk y.x

set_option maxRecDepth 1000000 in
set_option maxHeartbeats 1000000 in
theorem few_c (vc vr vf : Value) (ys : List ClV) (c : Rb) (w : World) (h : RbAt w vc vr vf ys c) :
    Calls Tryz.prog 7 #[.agg #[vc, vr, vf]] w fun e w' => Fr [] w w' ∧ ∃ oc or_ of_ zs d, e = .returned (rbV oc or_ of_) ∧ RbAt w' oc or_ of_ zs d := by
  obtain ⟨ac, pc, rfl⟩ := h.cls.sl.val
  obtain ⟨ar, pr, rfl⟩ := h.rps.val
  obtain ⟨af, pf, rfl⟩ := h.fas.val
  have hyl := h.cls.sl.len; have hrl := h.rps.len; have hfl := h.fas.len
  have HA := Lib.hid (allocs_at [.cells #[.slice ac ys.length pc, .slice ar c.rps.length pr, .slice af c.fas.length pf] 30, .cells #[.slice none 0 0, .slice none 0 0, .slice none 0 0] 30, .cells #[.slice none 0 0, .slice none 0 0, .slice none 0 0] 30] w)
  have FA : Hid (Fr [] w _) := Lib.hid (allocs_fr [.cells #[.slice ac ys.length pc, .slice ar c.rps.length pr, .slice af c.fas.length pf] 30, .cells #[.slice none 0 0, .slice none 0 0, .slice none 0 0] 30, .cells #[.slice none 0 0, .slice none 0 0, .slice none 0 0] 30] w)
  have HW := Lib.hid h
  clear h
  go_enter Tryz.func7, Tryz.ntmps7
  go_upto_block 0 with fail
  have HS0 : Hid (FewS w (.slice ac ys.length pc) (.slice ar c.rps.length pr) (.slice af c.fas.length pf) (.slice none 0 0) [] (cpW w (.slice ac ys.length pc) (.slice ar c.rps.length pr) (.slice af c.fas.length pf))) :=
    Lib.hid ⟨FA.out, HA.out 0 (by simp), HA.out 1 (by simp), HA.out 2 (by simp), ⟨rfl, .inl ⟨rfl, rfl⟩⟩, (fun g hg => by cases hg), by simp⟩
  clear HA FA
  go_cut [] (fun W => ∃ oc zs, Hid (FewS w (.slice ac ys.length pc) (.slice ar c.rps.length pr) (.slice af c.fas.length pf) oc zs W))
  case first =>
    go_wp2_with fail
    go_loopw [4] (fun i wr => ∃ (k : Nat) (oc : Value) (zs : List ClV), k ≤ ys.length ∧ k ≤ 4 ∧ i = .int .i64 k ∧ zs.length = k ∧ Hid (FewS w (.slice ac ys.length pc) (.slice ar c.rps.length pr) (.slice af c.fas.length pf) oc zs wr)) (fun i _ => 4 - (intOf i).toNat)
    case atStart => exact ⟨0, _, [], Nat.zero_le _, by omega, rfl, rfl, HS0⟩
    case round =>
      obtain ⟨k, oc, zs, hk, hk4, rfl, hzl, H⟩ := hrel
      have HZL := Lib.hid hzl
      clear hzl
      have c10 := cell_of_blk H.out.b1 0
      by_cases hlt : k < ys.length
      · by_cases hlt4 : k < 4
        · obtain ⟨ao, po, rfl⟩ := (sl_of_row H.out.row).val
          have hw := HW.out.same H.out.fr
          obtain ⟨b, off, cap, hv, hcl⟩ := clRow_cells hw.cls.sl k hlt
          cases hv
          obtain ⟨⟨⟨xp, xf, xt, xn, xb, xg⟩, vn, vb⟩, hx⟩ : ∃ y, ys[k] = y := ⟨_, rfl⟩
          rw [hx] at hcl
          have d0 := hcl 0 _ rfl
          have d1 := hcl 1 _ rfl
          have d2 := hcl 2 _ rfl
          have d3 := hcl 3 _ rfl
          have d4 := hcl 4 _ rfl
          have d5 := hcl 5 _ rfl
          simp only [Nat.add_zero] at d0 d1 d2 d3 d4 d5
          have hmem : ys[k] ∈ ys := List.getElem_mem hlt
          have HN := HW.out.cls.needs _ hmem
          have HB := HW.out.cls.bars _ hmem
          have HO : ClOk ys[k].x := HW.out.ok.cls _ (by rw [HW.out.eq]; exact List.mem_map_of_mem hmem)
          rw [hx] at HN HB HO
          simp only at HN HB HO
          obtain ⟨an, pn, rfl⟩ := HN.val
          obtain ⟨ab, pb, rfl⟩ := HB.val
          obtain ⟨m1, e1⟩ : ∃ m, min xn.length 5 = m := ⟨_, rfl⟩
          obtain ⟨m2, e2⟩ : ∃ m, min xb.length 5 = m := ⟨_, rfl⟩
          have hn1 : m1 ≤ xn.length := by omega
          have hb1 : m2 ≤ xb.length := by omega
          have hcn := HN.cap; have hcb := HB.cap
          have hn2 : m1 ≤ pn := by omega
          have hb2 : m2 ≤ pb := by omega
          have hi1 : min (xn.length : Int) 5 = (m1 : Int) := by omega
          have hj1 : (if (5 : Int) < (xn.length : Int) then 5 else (xn.length : Int)) = (m1 : Int) := by split <;> omega
          have hi2 : min (xb.length : Int) 5 = (m2 : Int) := by omega
          have hj2 : (if (5 : Int) < (xb.length : Int) then 5 else (xb.length : Int)) = (m2 : Int) := by split <;> omega
          have HNN := Lib.hid (HN.cut hn1); have HBB := Lib.hid (HB.cut hb1)
          have HOO : Hid (ClOk ⟨xp, xf, xt, xn.take m1, xb.take m2, xg⟩) := Lib.hid ⟨HO.pub, HO.f, HO.t, HO.gives, fun m hm => HO.needs m (List.mem_of_mem_take hm), fun m hm => HO.bars m (List.mem_of_mem_take hm)⟩
          clear hcl hx hmem hw HN HB HO e1 e2
          go_upto_region 6 with fail
          have A1 := heap_alloc_new wr (.cells #[.int .i64 xp, .int .i64 xf, .int .i64 xt, .slice an xn.length pn, .slice ab xb.length pb, .int .i64 xg] 67)
          have FA : Fr [] wr (wr.alloc (.cells #[.int .i64 xp, .int .i64 xf, .int .i64 xt, .slice an xn.length pn, .slice ab xb.length pb, .int .i64 xg] 67)) := Fr.alloc _ _ _
          generalize wr.alloc (.cells #[.int .i64 xp, .int .i64 xf, .int .i64 xt, .slice an xn.length pn, .slice ab xb.length pb, .int .i64 xg] 67) = WA at *
          have s3 : WA.cell? ⟨wr.heap.size, 3, none⟩ = some (.slice an xn.length pn) := cell_of_blk A1 3
          have z3 := free_of_blk A1 3
          have s4 : WA.cell? ⟨wr.heap.size, 4, none⟩ = some (.slice ab xb.length pb) := cell_of_blk A1 4
          have z4 := free_of_blk A1 4
          have HA1 := Lib.hid A1; have HFA := Lib.hid FA
          clear A1 FA d0 d1 d2 d3 d4 d5 c10
          go_upto_region 8 with fail
          have X1 := heap_setCell_same (i := 3) (.slice an m1 pn) HA1.out
          have X2 := heap_setCell_same (i := 4) (.slice ab m2 pb) X1
          simp only [List.setIfInBounds_toArray, List.set_cons_succ, List.set_cons_zero] at X2
          have F2 := HFA.out.step ((Fr.setCell (fp := [wr.heap.size]) WA (p := ⟨wr.heap.size, 3, none⟩) (.slice an m1 pn) (by simp)).trans (Fr.setCell (fp := [wr.heap.size]) _ (p := ⟨wr.heap.size, 4, none⟩) (.slice ab m2 pb) (by simp))) (fun i hi => .inr (by simp at hi; omega))
          clear s3 z3 s4 z4 HA1 HFA X1
          generalize (WA.setCell ⟨wr.heap.size, 3, none⟩ (.slice an m1 pn)).setCell ⟨wr.heap.size, 4, none⟩ (.slice ab m2 pb) = W2 at *
          have t0 : W2.cell? ⟨wr.heap.size, 0, none⟩ = some (.int .i64 xp) := cell_of_blk X2 0
          have t1 : W2.cell? ⟨wr.heap.size, 1, none⟩ = some (.int .i64 xf) := cell_of_blk X2 1
          have t2 : W2.cell? ⟨wr.heap.size, 2, none⟩ = some (.int .i64 xt) := cell_of_blk X2 2
          have t3 : W2.cell? ⟨wr.heap.size, 3, none⟩ = some (.slice an m1 pn) := cell_of_blk X2 3
          have t4 : W2.cell? ⟨wr.heap.size, 4, none⟩ = some (.slice ab m2 pb) := cell_of_blk X2 4
          have t5 : W2.cell? ⟨wr.heap.size, 5, none⟩ = some (.int .i64 xg) := cell_of_blk X2 5
          have u0 : W2.cell? ⟨w.heap.size + 1 + 1, 0, none⟩ = some (.slice ao zs.length po) := cell_of_blk (F2.keep H.out.b3 (by simp)) 0
          have HF2 := Lib.hid F2
          clear X2 F2
          go_wp2_with (first | ((with_reducible refine wpList_of_wp (o := ⟨some 42, _, _, _, _, _⟩) rfl (fun K hK => ?_)); apply stop_in; case _other => exact trivial))
          (refine stop_in ?_ ?_; rotate_left; exact trivial)
          have HSr := srcAt_new W2 #[.int .i64 xp, .int .i64 xf, .int .i64 xt, .slice an m1 pn, .slice ab m2 pb, .int .i64 xg] 67
          have F4 : Fr [] wr (W2.alloc (.cells #[.int .i64 xp, .int .i64 xf, .int .i64 xt, .slice an m1 pn, .slice ab m2 pb, .int .i64 xg] 67)) := HF2.out.trans (Fr.alloc _ _ _)
          generalize W2.alloc (.cells #[.int .i64 xp, .int .i64 xf, .int .i64 xt, .slice an m1 pn, .slice ab m2 pb, .int .i64 xg] 67) = WC at *
          have hzz := HZL.out
          refine wp_append_src (.tmp 39) (.tmp 41) 26 67 _ 6 80 rfl Tryz.underlying26 infoCl rfl (by decide) (.slice ao zs.length po) zs.length _ rfl (row_fr H.out.row F4 (by simp)) (.slice (some ⟨W2.heap.size, 0, none⟩) 1 1) 1 [.int .i64 xp, .int .i64 xf, .int .i64 xt, .slice an m1 pn, .slice ab m2 pb, .int .i64 xg] rfl HSr rfl (by simp [Value.oneCell']) (by omega) (by omega) ?_
          intro gc cap3 W5 r5 f5 b5
          refine hK _ _ ?_
          clear hK K
          have KB := H.out
          have hbx : ∀ i, i < w.heap.size + 3 → i ∉ (Value.slice ao zs.length po).ownBlock.toList := fun i hi hm => by have := KB.new _ (by simpa using hm); omega
          have X5 := f5.keep (F4.keep KB.b3 (by simp)) (hbx _ (by omega))
          have FS5 : Fr [w.heap.size + 1 + 1] W5 (W5.setCell ⟨w.heap.size + 1 + 1, 0, none⟩ (.slice gc (zs.length + 1) cap3)) := Fr.setCell _ _ (by simp)
          have X6 := heap_setCell_same (i := 0) (.slice gc (zs.length + 1) cap3) X5
          simp only [List.setIfInBounds_toArray, List.set_cons_zero] at X6
          have hg5 : ∀ g, (Value.slice gc (zs.length + 1) cap3).ownBlock = some g → w.heap.size + 3 ≤ g := new_ge b5 (by have := F4.size; have := blk_lt KB.b3; omega) KB.new
          have HM : Hid (FewS w (.slice (some ⟨b, off, none⟩) ys.length pc) (.slice ar c.rps.length pr) (.slice af c.fas.length pf) (.slice gc (zs.length + 1) cap3) (zs ++ [⟨⟨xp, xf, xt, xn.take m1, xb.take m2, xg⟩, .slice an m1 pn, .slice ab m2 pb⟩]) (W5.setCell ⟨w.heap.size + 1 + 1, 0, none⟩ (.slice gc (zs.length + 1) cap3))) := Lib.hid (by
            refine ⟨?_, ?_, ?_, X6, ?_, hg5, fun y hy => ?_⟩
            · exact ((KB.fr.trans F4).step f5 (fun i hi => .inr (by have := KB.new i (by simpa using hi); omega))).step FS5 (fun i hi => .inr (by simp at hi; omega))
            · exact FS5.keep (f5.keep (F4.keep KB.b1 (by simp)) (hbx _ (by omega))) (by simp; omega)
            · exact FS5.keep (f5.keep (F4.keep KB.b2 (by simp)) (hbx _ (by omega))) (by simp)
            · have r6 := row_fr r5 FS5 (fun g hg hm => by have := hg5 g hg; simp at hm; omega)
              rw [List.length_append, List.flatMap_append]
              exact r6
            · rcases List.mem_append.1 hy with hy | hy
              · exact KB.terms y hy
              · rw [List.mem_singleton] at hy; subst hy
                exact ⟨HNN.out, HBB.out, HOO.out⟩)
          have v0 : W5.cell? ⟨w.heap.size + 1 + 1, 0, none⟩ = some (.slice ao zs.length po) := cell_of_blk X5 0
          have vz : W5.frozen? ⟨w.heap.size + 1 + 1, 0, none⟩ = false := free_of_blk X5 0
          clear hzz KB hbx X5 X6 FS5 r5 f5 b5 hg5 HSr F4 t0 t1 t2 t3 t4 t5 u0 hi1 hj1 hi2 hj2
          go_wp2_with fail
          go_roundw
          case rel =>
            refine ⟨k + 1, _, _, by omega, by omega, by go_num, ?_, HM⟩
            rw [List.length_append, HZL.out]; rfl
          case measure => simp [intOf]; omega
        · obtain rfl : k = 4 := by omega
          go_wp2_with fail
          go_meet
          case rel => exact ⟨oc, zs, H⟩
      · obtain rfl : k = ys.length := by omega
        go_wp2_with fail
        go_meet
        case rel => exact ⟨oc, zs, H⟩
  case rest =>
    obtain ⟨oc, zs, H⟩ := hcut
    obtain ⟨ao, po, rfl⟩ := (sl_of_row H.out.row).val
    obtain ⟨m1, e1⟩ : ∃ m, min c.rps.length 4 = m := ⟨_, rfl⟩
    obtain ⟨m2, e2⟩ : ∃ m, min c.fas.length 4 = m := ⟨_, rfl⟩
    have hn1 : m1 ≤ c.rps.length := by omega
    have hb1 : m2 ≤ c.fas.length := by omega
    have hcn := HW.out.rps.cap; have hcb := HW.out.fas.cap
    have hn2 : m1 ≤ pr := by omega
    have hb2 : m2 ≤ pf := by omega
    have hi1 : min (c.rps.length : Int) 4 = (m1 : Int) := by omega
    have hj1 : (if (4 : Int) < (c.rps.length : Int) then 4 else (c.rps.length : Int)) = (m1 : Int) := by split <;> omega
    have hi2 : min (c.fas.length : Int) 4 = (m2 : Int) := by omega
    have hj2 : (if (4 : Int) < (c.fas.length : Int) then 4 else (c.fas.length : Int)) = (m2 : Int) := by split <;> omega
    have c1 := cell_of_blk H.out.b1 1; have c2 := cell_of_blk H.out.b1 2
    have o0 := cell_of_blk H.out.b3 0; have o1 := cell_of_blk H.out.b3 1; have o2 := cell_of_blk H.out.b3 2
    have y1 := free_of_blk H.out.b3 1; have y2 := free_of_blk H.out.b3 2
    clear e1 e2
    go_upto_region 11 with fail
    have X1 := heap_setCell_same (i := 1) (.slice ar m1 pr) H.out.b3
    have X2 := heap_setCell_same (i := 2) (.slice af m2 pf) X1
    simp only [List.setIfInBounds_toArray, List.set_cons_succ, List.set_cons_zero] at X2
    have FS := (Fr.setCell (fp := [w.heap.size + 1 + 1]) wc (p := ⟨w.heap.size + 1 + 1, 1, none⟩) (.slice ar m1 pr) (by simp)).trans (Fr.setCell (fp := [w.heap.size + 1 + 1]) _ (p := ⟨w.heap.size + 1 + 1, 2, none⟩) (.slice af m2 pf) (by simp))
    have HK := H.out
    have F2 : Hid (Fr [] w _) := Lib.hid (HK.fr.step FS (fun i hi => .inr (by simp at hi; omega)))
    have HB2 := Lib.hid (FS.keep HK.b2 (by simp))
    have HR := Lib.hid (row_fr HK.row FS (fun g hg hm => by have := HK.new g hg; simp at hm; omega))
    have HN : Hid (∀ g, (Value.slice ao zs.length po).ownBlock = some g → w.heap.size + 3 ≤ g) := Lib.hid HK.new
    have HT : Hid (∀ y, y ∈ zs → IntsAt w y.vn y.x.needs ∧ IntsAt w y.vb y.x.bars ∧ ClOk y.x) := Lib.hid HK.terms
    have HX2 := Lib.hid X2
    clear c1 c2 o0 o1 o2 y1 y2 X1 X2 FS HK H
    generalize (wc.setCell ⟨w.heap.size + 1 + 1, 1, none⟩ (.slice ar m1 pr)).setCell ⟨w.heap.size + 1 + 1, 2, none⟩ (.slice af m2 pf) = W2 at *
    have o0 := cell_of_blk HX2.out 0; have o1 := cell_of_blk HX2.out 1; have o2 := cell_of_blk HX2.out 2
    have p0 := cell_of_blk HB2.out 0; have p1 := cell_of_blk HB2.out 1; have p2 := cell_of_blk HB2.out 2
    have z0 := free_of_blk HB2.out 0; have z1 := free_of_blk HB2.out 1; have z2 := free_of_blk HB2.out 2
    clear hi1 hj1 hi2 hj2
    go_wp2_with fail
    have q1 := heap_setCell_same (i := 0) (.slice ao zs.length po) HB2.out
    have q2 := heap_setCell_same (i := 1) (.slice ar m1 pr) q1
    have q3 := heap_setCell_same (i := 2) (.slice af m2 pf) q2
    simp only [List.setIfInBounds_toArray, List.set_cons_succ, List.set_cons_zero] at q3
    have FT : Fr [w.heap.size + 1] W2 _ := ((Fr.setCell W2 (p := ⟨w.heap.size + 1, 0, none⟩) (.slice ao zs.length po) (by simp)).trans (Fr.setCell _ (p := ⟨w.heap.size + 1, 1, none⟩) (.slice ar m1 pr) (by simp))).trans (Fr.setCell _ (p := ⟨w.heap.size + 1, 2, none⟩) (.slice af m2 pf) (by simp))
    generalize ((W2.setCell ⟨w.heap.size + 1, 0, none⟩ (.slice ao zs.length po)).setCell ⟨w.heap.size + 1, 1, none⟩ (.slice ar m1 pr)).setCell ⟨w.heap.size + 1, 2, none⟩ (.slice af m2 pf) = WF at *
    have k0 := cell_of_blk q3 0; have k1 := cell_of_blk q3 1; have k2 := cell_of_blk q3 2
    refine bodyPost_ret (by simp [results, Tryz.results7, go_sem, k0, k1, k2]; try rfl) rfl ?_
    have FF : Fr [] w WF := F2.out.step FT (fun i hi => .inr (by simp at hi; omega))
    refine ⟨FF, _, _, _, zs, ⟨zs.map (·.x), c.rps.take m1, c.fas.take m2⟩, rfl, ⟨rfl, ⟨sl_of_row (row_fr HR.out FT (fun g hg hm => by have := HN.out g hg; simp at hm; omega)), fun y hy => (HT.out y hy).1.same FF, fun y hy => (HT.out y hy).2.1.same FF⟩, (HW.out.rps.rows hn1).same FF, (HW.out.fas.rows hb1).same FF, ⟨fun x hx => ?_, fun x hx => HW.out.ok.rps x (List.mem_of_mem_take hx), fun x hx => HW.out.ok.fas x (List.mem_of_mem_take hx)⟩⟩⟩
    obtain ⟨y, hy, rfl⟩ := List.mem_map.1 hx
    exact (HT.out y hy).2.2

end Go.Proofs.YtfidioedjmjddaaGreat
