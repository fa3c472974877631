/-
  dialtoneref08: bentClause, Bent.
-/
import Derived.Test.YtfidioedjmjddaaGreatQRA
import Derived.Test.YtfidioedjmjddaaGreatQL8
namespace Go.Proofs.YtfidioedjmjddaaGreat
open Go.RowKit Go.Lib

theorem intsR_of_row' {w : World} {ga : Option Addr} {m cap : Nat} {l : List Int} {n : Int} (h : w.ownsRow 0 3 1 (.slice ga (m + 1) cap) (l ++ [n]).length (intC (l ++ [n]))) : IntsR w (.slice ga (m + 1) cap) (l ++ [n]) := intsR_of_row h

set_option maxRecDepth 1000000 in
set_option maxHeartbeats 4000000 in
theorem bentCl_c (xp xf xt xg : Int) (xn xb : List Int) (vn vb : Value) (how n : Int) (w : World) (hn : IntsR w vn xn) (hb : IntsR w vb xb) (hnl : xn.length ≤ 1000) (hbl : xb.length ≤ 1000) (i1 : I64 how) :
    Calls Tryz.prog 29 #[.agg #[.int .i64 xp, .int .i64 xf, .int .i64 xt, vn, vb, .int .i64 xg], .int .i64 how, .int .i64 n] w fun e w' => Fr [] w w' ∧ ∃ y : ClV, e = .returned (clV y) ∧ IntsR w' y.vn y.x.needs ∧ IntsR w' y.vb y.x.bars ∧ (∀ g, y.vn.ownBlock = some g ∨ y.vb.ownBlock = some g → vn.ownBlock = some g ∨ vb.ownBlock = some g ∨ w.heap.size ≤ g) ∧ (ClOk ⟨xp, xf, xt, xn, xb, xg⟩ → I64 n → ClOk y.x) := by
  obtain ⟨an, pn, rfl⟩ := hn.sl.val
  obtain ⟨ab, pb, rfl⟩ := hb.sl.val
  have HN := Lib.hid hn; have HB := Lib.hid hb
  have CP := Lib.hid fun W => pick8_c how 5 W i1 (by omega) (by omega)
  have bp := pickI_bound how 5 (by omega)
  generalize pickI how 5 = pk at *
  clear hn hb i1
  go_enter Tryz.func29, Tryz.ntmps29
  go_wp2_with fail
  refine (CP.out _).mono ?_
  rintro e w0 ⟨rfl, rfl⟩
  have h5 : pk = 0 ∨ pk = 1 ∨ pk = 2 ∨ pk = 3 ∨ pk = 4 := by omega
  clear CP bp
  rcases h5 with rfl | rfl | rfl | rfl | rfl
  · skip
    go_wp2_with fail
    have bk : ((w.alloc (.cells #[.int .i64 n, .int .i64 xf, .int .i64 xt, .slice an xn.length pn, .slice ab xb.length pb, .int .i64 xg] 67)).alloc (.cells #[.int .i64 n, .int .i64 xf, .int .i64 xt, .slice an xn.length pn, .slice ab xb.length pb, .int .i64 xg] 67)).heap[w.heap.size + 1]? = some (.cells #[.int .i64 n, .int .i64 xf, .int .i64 xt, .slice an xn.length pn, .slice ab xb.length pb, .int .i64 xg] 67) := by have := heap_alloc_new (w.alloc (.cells #[.int .i64 n, .int .i64 xf, .int .i64 xt, .slice an xn.length pn, .slice ab xb.length pb, .int .i64 xg] 67)) (.cells #[.int .i64 n, .int .i64 xf, .int .i64 xt, .slice an xn.length pn, .slice ab xb.length pb, .int .i64 xg] 67); rwa [World.size_alloc] at this
    have k0 := cell_of_blk bk 0; have k1 := cell_of_blk bk 1; have k2 := cell_of_blk bk 2; have k3 := cell_of_blk bk 3; have k4 := cell_of_blk bk 4; have k5 := cell_of_blk bk 5
    have FE := (Fr.alloc [] w (.cells #[.int .i64 n, .int .i64 xf, .int .i64 xt, .slice an xn.length pn, .slice ab xb.length pb, .int .i64 xg] 67)).trans (Fr.alloc _ _ (.cells #[.int .i64 n, .int .i64 xf, .int .i64 xt, .slice an xn.length pn, .slice ab xb.length pb, .int .i64 xg] 67))
    refine bodyPost_ret (by simp [results, Tryz.results29, go_sem, k0, k1, k2, k3, k4, k5]; try rfl) rfl ?_
    exact ⟨FE, ⟨⟨n, xf, xt, xn, xb, xg⟩, .slice an xn.length pn, .slice ab xb.length pb⟩, rfl, HN.out.same FE, HB.out.same FE, fun g hg => hg.elim .inl (fun h => .inr (.inl h)), fun hok hn => ⟨hn, hok.f, hok.t, hok.gives, hok.needs, hok.bars⟩⟩
  · skip
    go_wp2_with fail
    have bk : ((w.alloc (.cells #[.int .i64 xp, .int .i64 n, .int .i64 xt, .slice an xn.length pn, .slice ab xb.length pb, .int .i64 xg] 67)).alloc (.cells #[.int .i64 xp, .int .i64 n, .int .i64 xt, .slice an xn.length pn, .slice ab xb.length pb, .int .i64 xg] 67)).heap[w.heap.size + 1]? = some (.cells #[.int .i64 xp, .int .i64 n, .int .i64 xt, .slice an xn.length pn, .slice ab xb.length pb, .int .i64 xg] 67) := by have := heap_alloc_new (w.alloc (.cells #[.int .i64 xp, .int .i64 n, .int .i64 xt, .slice an xn.length pn, .slice ab xb.length pb, .int .i64 xg] 67)) (.cells #[.int .i64 xp, .int .i64 n, .int .i64 xt, .slice an xn.length pn, .slice ab xb.length pb, .int .i64 xg] 67); rwa [World.size_alloc] at this
    have k0 := cell_of_blk bk 0; have k1 := cell_of_blk bk 1; have k2 := cell_of_blk bk 2; have k3 := cell_of_blk bk 3; have k4 := cell_of_blk bk 4; have k5 := cell_of_blk bk 5
    have FE := (Fr.alloc [] w (.cells #[.int .i64 xp, .int .i64 n, .int .i64 xt, .slice an xn.length pn, .slice ab xb.length pb, .int .i64 xg] 67)).trans (Fr.alloc _ _ (.cells #[.int .i64 xp, .int .i64 n, .int .i64 xt, .slice an xn.length pn, .slice ab xb.length pb, .int .i64 xg] 67))
    refine bodyPost_ret (by simp [results, Tryz.results29, go_sem, k0, k1, k2, k3, k4, k5]; try rfl) rfl ?_
    exact ⟨FE, ⟨⟨xp, n, xt, xn, xb, xg⟩, .slice an xn.length pn, .slice ab xb.length pb⟩, rfl, HN.out.same FE, HB.out.same FE, fun g hg => hg.elim .inl (fun h => .inr (.inl h)), fun hok hn => ⟨hok.pub, hn, hok.t, hok.gives, hok.needs, hok.bars⟩⟩
  · skip
    go_wp2_with fail
    have bk : ((w.alloc (.cells #[.int .i64 xp, .int .i64 xf, .int .i64 xt, .slice an xn.length pn, .slice ab xb.length pb, .int .i64 n] 67)).alloc (.cells #[.int .i64 xp, .int .i64 xf, .int .i64 xt, .slice an xn.length pn, .slice ab xb.length pb, .int .i64 n] 67)).heap[w.heap.size + 1]? = some (.cells #[.int .i64 xp, .int .i64 xf, .int .i64 xt, .slice an xn.length pn, .slice ab xb.length pb, .int .i64 n] 67) := by have := heap_alloc_new (w.alloc (.cells #[.int .i64 xp, .int .i64 xf, .int .i64 xt, .slice an xn.length pn, .slice ab xb.length pb, .int .i64 n] 67)) (.cells #[.int .i64 xp, .int .i64 xf, .int .i64 xt, .slice an xn.length pn, .slice ab xb.length pb, .int .i64 n] 67); rwa [World.size_alloc] at this
    have k0 := cell_of_blk bk 0; have k1 := cell_of_blk bk 1; have k2 := cell_of_blk bk 2; have k3 := cell_of_blk bk 3; have k4 := cell_of_blk bk 4; have k5 := cell_of_blk bk 5
    have FE := (Fr.alloc [] w (.cells #[.int .i64 xp, .int .i64 xf, .int .i64 xt, .slice an xn.length pn, .slice ab xb.length pb, .int .i64 n] 67)).trans (Fr.alloc _ _ (.cells #[.int .i64 xp, .int .i64 xf, .int .i64 xt, .slice an xn.length pn, .slice ab xb.length pb, .int .i64 n] 67))
    refine bodyPost_ret (by simp [results, Tryz.results29, go_sem, k0, k1, k2, k3, k4, k5]; try rfl) rfl ?_
    exact ⟨FE, ⟨⟨xp, xf, xt, xn, xb, n⟩, .slice an xn.length pn, .slice ab xb.length pb⟩, rfl, HN.out.same FE, HB.out.same FE, fun g hg => hg.elim .inl (fun h => .inr (.inl h)), fun hok hn => ⟨hok.pub, hok.f, hok.t, hn, hok.needs, hok.bars⟩⟩
  · skip
    go_wp2_with (first | ((with_reducible refine wpList_of_wp (o := ⟨some 35, _, _, _, _, _⟩) rfl (fun K hK => ?_)); apply stop_in; case _other => exact trivial))
    (refine stop_in ?_ ?_; rotate_left; exact trivial)
    have A1 : (((w.alloc (.cells #[.int .i64 xp, .int .i64 xf, .int .i64 xt, .slice an xn.length pn, .slice ab xb.length pb, .int .i64 xg] 67)).alloc (.cells #[.int .i64 0, .int .i64 0, .int .i64 0, .slice none 0 0, .slice none 0 0, .int .i64 0] 67)).alloc (.cells #[] 3)).heap[w.heap.size + 1 + 1]? = some (.cells #[] 3) := by have := heap_alloc_new ((w.alloc (.cells #[.int .i64 xp, .int .i64 xf, .int .i64 xt, .slice an xn.length pn, .slice ab xb.length pb, .int .i64 xg] 67)).alloc (.cells #[.int .i64 0, .int .i64 0, .int .i64 0, .slice none 0 0, .slice none 0 0, .int .i64 0] 67)) (.cells #[] 3); rwa [World.size_alloc, World.size_alloc] at this
    have A2 : (((w.alloc (.cells #[.int .i64 xp, .int .i64 xf, .int .i64 xt, .slice an xn.length pn, .slice ab xb.length pb, .int .i64 xg] 67)).alloc (.cells #[.int .i64 0, .int .i64 0, .int .i64 0, .slice none 0 0, .slice none 0 0, .int .i64 0] 67)).alloc (.cells #[] 3)).heap[w.heap.size]? = some (.cells #[.int .i64 xp, .int .i64 xf, .int .i64 xt, .slice an xn.length pn, .slice ab xb.length pb, .int .i64 xg] 67) := heap_alloc_old _ (heap_alloc_old _ (heap_alloc_new _ _))
    have A3 : (((w.alloc (.cells #[.int .i64 xp, .int .i64 xf, .int .i64 xt, .slice an xn.length pn, .slice ab xb.length pb, .int .i64 xg] 67)).alloc (.cells #[.int .i64 0, .int .i64 0, .int .i64 0, .slice none 0 0, .slice none 0 0, .int .i64 0] 67)).alloc (.cells #[] 3)).heap[w.heap.size + 1]? = some (.cells #[.int .i64 0, .int .i64 0, .int .i64 0, .slice none 0 0, .slice none 0 0, .int .i64 0] 67) := heap_alloc_old _ (by have := heap_alloc_new (w.alloc (.cells #[.int .i64 xp, .int .i64 xf, .int .i64 xt, .slice an xn.length pn, .slice ab xb.length pb, .int .i64 xg] 67)) (.cells #[.int .i64 0, .int .i64 0, .int .i64 0, .slice none 0 0, .slice none 0 0, .int .i64 0] 67); rwa [World.size_alloc] at this)
    have FA : Fr [] w (((w.alloc (.cells #[.int .i64 xp, .int .i64 xf, .int .i64 xt, .slice an xn.length pn, .slice ab xb.length pb, .int .i64 xg] 67)).alloc (.cells #[.int .i64 0, .int .i64 0, .int .i64 0, .slice none 0 0, .slice none 0 0, .int .i64 0] 67)).alloc (.cells #[] 3)) := ((Fr.alloc _ _ _).trans (Fr.alloc _ _ _)).trans (Fr.alloc _ _ _)
    generalize ((w.alloc (.cells #[.int .i64 xp, .int .i64 xf, .int .i64 xt, .slice an xn.length pn, .slice ab xb.length pb, .int .i64 xg] 67)).alloc (.cells #[.int .i64 0, .int .i64 0, .int .i64 0, .slice none 0 0, .slice none 0 0, .int .i64 0] 67)).alloc (.cells #[] 3) = WA at *
    refine wp_append_src (.tmp 32) (.tmp 34) 48 3 _ 1 8 rfl Tryz.underlying48 infoI8 rfl (by decide) (.slice (some ⟨w.heap.size + 1 + 1, 0, none⟩) 0 0) 0 [] rfl (row_blk0 A1 1) (.slice an xn.length pn) xn.length (intC xn) rfl (HN.out.src.same FA) (by simp [intC]) (intC_one _) (by omega) (by omega) ?_
    intro ga cap1 W1 r1 f1 b1
    refine hK _ _ ?_
    clear hK K
    simp only [Nat.zero_add, List.nil_append] at r1 b1 ⊢
    have sA := blk_lt A1
    have X1 := Lib.hid (f1.keep A2 (by simp [Value.ownBlock]; omega)); have Y1 := Lib.hid (f1.keep A3 (by simp [Value.ownBlock]))
    have F1 := Lib.hid (FA.step f1 (fun i hi => by simp [Value.ownBlock] at hi; exact .inr (by omega)))
    have G1 : ∀ g, (Value.slice ga xn.length cap1).ownBlock = some g → w.heap.size + 1 < g := fun g hg => by
      have := FA.size
      rcases b1 with b1 | b1 <;> (rw [b1] at hg; simp [Value.ownBlock] at hg; omega)
    have HG1 := Lib.hid G1; have HR1 := Lib.hid r1
    clear A1 A2 A3 FA f1 b1 r1 G1
    go_wp2_with (first | ((with_reducible refine wpList_of_wp (o := ⟨some 38, _, _, _, _, _⟩) rfl (fun K hK => ?_)); apply stop_in; case _other => exact trivial))
    (refine stop_in ?_ ?_; rotate_left; exact trivial)
    refine wp_append_src (.tmp 35) (.tmp 37) 48 3 (.int .i64 0) 1 8 rfl Tryz.underlying48 infoI8 rfl (by decide) (.slice ga xn.length cap1) xn.length (intC xn) rfl (row_fr HR1.out (Fr.alloc [] W1 (.cells #[.int .i64 n] 3)) (by simp)) _ 1 [.int .i64 n] rfl (srcAt_one W1 (.int .i64 n) 3) rfl (by simp [Value.oneCell']) (by omega) (by omega) ?_
    intro gb cap2 W2 r2 f2 b2
    refine hK _ _ ?_
    clear hK K
    have hg1 := HG1.out
    have X2 := Lib.hid (f2.keep (heap_alloc_old _ X1.out) (fun hm => by have := hg1 w.heap.size (by simpa using hm); omega)); have Y2 := Lib.hid (f2.keep (heap_alloc_old _ Y1.out) (fun hm => by have := hg1 (w.heap.size + 1) (by simpa using hm); omega))
    have F2 := Lib.hid ((F1.out.trans (Fr.alloc [] W1 (.cells #[.int .i64 n] 3))).step f2 (fun i hi => .inr (by have := hg1 i (by simpa using hi); omega)))
    have G2 : ∀ g, (Value.slice gb (xn.length + 1) cap2).ownBlock = some g → w.heap.size + 1 < g := fun g hg => by
      rcases b2 with b2 | b2
      · rw [b2] at hg; exact hg1 g hg
      · rw [b2] at hg; simp at hg; have := blk_lt Y1.out; omega
    have HG2 := Lib.hid G2
    have HR2 : Hid (W2.ownsRow 0 3 1 (.slice gb (xn.length + 1) cap2) (xn ++ [n]).length (intC (xn ++ [n]))) := Lib.hid (by
      have e : intC (xn ++ [n]) = intC xn ++ [.int .i64 n] := by simp [intC]
      rw [e, List.length_append]; exact r2)
    clear f2 b2 r2 G2 hg1
    have c0 := cell_of_blk X2.out 0; have c1 := cell_of_blk X2.out 1; have c2 := cell_of_blk X2.out 2; have c3 := cell_of_blk X2.out 3; have c4 := cell_of_blk X2.out 4; have c5 := cell_of_blk X2.out 5
    have z3 := free_of_blk X2.out 3
    have y0 := cell_of_blk Y2.out 0; have y1 := cell_of_blk Y2.out 1; have y2 := cell_of_blk Y2.out 2; have y3 := cell_of_blk Y2.out 3; have y4 := cell_of_blk Y2.out 4; have y5 := cell_of_blk Y2.out 5
    have v0 := free_of_blk Y2.out 0; have v1 := free_of_blk Y2.out 1; have v2 := free_of_blk Y2.out 2; have v3 := free_of_blk Y2.out 3; have v4 := free_of_blk Y2.out 4; have v5 := free_of_blk Y2.out 5
    go_wp2_with fail
    have q0 := (Fr.setCell (fp := [w.heap.size]) W2 (p := ⟨w.heap.size, 3, none⟩) (.slice gb (xn.length + 1) cap2) (by simp)).keep Y2.out (by simp)
    have q1 := heap_setCell_same (i := 0) (.int .i64 xp) q0
    have q2 := heap_setCell_same (i := 1) (.int .i64 xf) q1
    have q3 := heap_setCell_same (i := 2) (.int .i64 xt) q2
    have q4 := heap_setCell_same (i := 3) (.slice gb (xn.length + 1) cap2) q3
    have q5 := heap_setCell_same (i := 4) (.slice ab xb.length pb) q4
    have q6 := heap_setCell_same (i := 5) (.int .i64 xg) q5
    simp only [List.setIfInBounds_toArray, List.set_cons_succ, List.set_cons_zero] at q6
    have FS : Fr [w.heap.size, w.heap.size + 1] W2 _ := ((((((Fr.setCell W2 (p := ⟨w.heap.size, 3, none⟩) (.slice gb (xn.length + 1) cap2) (by simp)).trans (Fr.setCell _ (p := ⟨w.heap.size + 1, 0, none⟩) (.int .i64 xp) (by simp))).trans (Fr.setCell _ (p := ⟨w.heap.size + 1, 1, none⟩) (.int .i64 xf) (by simp))).trans (Fr.setCell _ (p := ⟨w.heap.size + 1, 2, none⟩) (.int .i64 xt) (by simp))).trans (Fr.setCell _ (p := ⟨w.heap.size + 1, 3, none⟩) (.slice gb (xn.length + 1) cap2) (by simp))).trans (Fr.setCell _ (p := ⟨w.heap.size + 1, 4, none⟩) (.slice ab xb.length pb) (by simp))).trans (Fr.setCell _ (p := ⟨w.heap.size + 1, 5, none⟩) (.int .i64 xg) (by simp))
    generalize ((((((W2.setCell ⟨w.heap.size, 3, none⟩ (.slice gb (xn.length + 1) cap2)).setCell ⟨w.heap.size + 1, 0, none⟩ (.int .i64 xp)).setCell ⟨w.heap.size + 1, 1, none⟩ (.int .i64 xf)).setCell ⟨w.heap.size + 1, 2, none⟩ (.int .i64 xt)).setCell ⟨w.heap.size + 1, 3, none⟩ (.slice gb (xn.length + 1) cap2)).setCell ⟨w.heap.size + 1, 4, none⟩ (.slice ab xb.length pb)).setCell ⟨w.heap.size + 1, 5, none⟩ (.int .i64 xg) = WF at *
    have k0 := cell_of_blk q6 0; have k1 := cell_of_blk q6 1; have k2 := cell_of_blk q6 2; have k3 := cell_of_blk q6 3; have k4 := cell_of_blk q6 4; have k5 := cell_of_blk q6 5
    have FE : Fr [] w WF := F2.out.step FS (fun i hi => by simp at hi; exact .inr (by omega))
    have hg2 := HG2.out
    refine bodyPost_ret (by simp [results, Tryz.results29, go_sem, k0, k1, k2, k3, k4, k5]; try rfl) rfl ?_
    exact ⟨FE, ⟨⟨xp, xf, xt, xn ++ [n], xb, xg⟩, .slice gb (xn.length + 1) cap2, .slice ab xb.length pb⟩, rfl, intsR_of_row' (row_fr HR2.out FS (fun g hg hm => by have := hg2 g hg; simp at hm; omega)), HB.out.same FE, fun g hg => by
      rcases hg with hg | hg
      · exact .inr (.inr (by have := hg2 g hg; omega))
      · exact .inr (.inl hg), fun hok hn => ⟨hok.pub, hok.f, hok.t, hok.gives, fun m hm => (List.mem_append.1 hm).elim (hok.needs m) (fun h => by rw [List.mem_singleton] at h; subst h; exact hn), hok.bars⟩⟩
  · skip
    go_wp2_with (first | ((with_reducible refine wpList_of_wp (o := ⟨some 12, _, _, _, _, _⟩) rfl (fun K hK => ?_)); apply stop_in; case _other => exact trivial))
    (refine stop_in ?_ ?_; rotate_left; exact trivial)
    have A1 : (((w.alloc (.cells #[.int .i64 xp, .int .i64 xf, .int .i64 xt, .slice an xn.length pn, .slice ab xb.length pb, .int .i64 xg] 67)).alloc (.cells #[.int .i64 0, .int .i64 0, .int .i64 0, .slice none 0 0, .slice none 0 0, .int .i64 0] 67)).alloc (.cells #[] 3)).heap[w.heap.size + 1 + 1]? = some (.cells #[] 3) := by have := heap_alloc_new ((w.alloc (.cells #[.int .i64 xp, .int .i64 xf, .int .i64 xt, .slice an xn.length pn, .slice ab xb.length pb, .int .i64 xg] 67)).alloc (.cells #[.int .i64 0, .int .i64 0, .int .i64 0, .slice none 0 0, .slice none 0 0, .int .i64 0] 67)) (.cells #[] 3); rwa [World.size_alloc, World.size_alloc] at this
    have A2 : (((w.alloc (.cells #[.int .i64 xp, .int .i64 xf, .int .i64 xt, .slice an xn.length pn, .slice ab xb.length pb, .int .i64 xg] 67)).alloc (.cells #[.int .i64 0, .int .i64 0, .int .i64 0, .slice none 0 0, .slice none 0 0, .int .i64 0] 67)).alloc (.cells #[] 3)).heap[w.heap.size]? = some (.cells #[.int .i64 xp, .int .i64 xf, .int .i64 xt, .slice an xn.length pn, .slice ab xb.length pb, .int .i64 xg] 67) := heap_alloc_old _ (heap_alloc_old _ (heap_alloc_new _ _))
    have A3 : (((w.alloc (.cells #[.int .i64 xp, .int .i64 xf, .int .i64 xt, .slice an xn.length pn, .slice ab xb.length pb, .int .i64 xg] 67)).alloc (.cells #[.int .i64 0, .int .i64 0, .int .i64 0, .slice none 0 0, .slice none 0 0, .int .i64 0] 67)).alloc (.cells #[] 3)).heap[w.heap.size + 1]? = some (.cells #[.int .i64 0, .int .i64 0, .int .i64 0, .slice none 0 0, .slice none 0 0, .int .i64 0] 67) := heap_alloc_old _ (by have := heap_alloc_new (w.alloc (.cells #[.int .i64 xp, .int .i64 xf, .int .i64 xt, .slice an xn.length pn, .slice ab xb.length pb, .int .i64 xg] 67)) (.cells #[.int .i64 0, .int .i64 0, .int .i64 0, .slice none 0 0, .slice none 0 0, .int .i64 0] 67); rwa [World.size_alloc] at this)
    have FA : Fr [] w (((w.alloc (.cells #[.int .i64 xp, .int .i64 xf, .int .i64 xt, .slice an xn.length pn, .slice ab xb.length pb, .int .i64 xg] 67)).alloc (.cells #[.int .i64 0, .int .i64 0, .int .i64 0, .slice none 0 0, .slice none 0 0, .int .i64 0] 67)).alloc (.cells #[] 3)) := ((Fr.alloc _ _ _).trans (Fr.alloc _ _ _)).trans (Fr.alloc _ _ _)
    generalize ((w.alloc (.cells #[.int .i64 xp, .int .i64 xf, .int .i64 xt, .slice an xn.length pn, .slice ab xb.length pb, .int .i64 xg] 67)).alloc (.cells #[.int .i64 0, .int .i64 0, .int .i64 0, .slice none 0 0, .slice none 0 0, .int .i64 0] 67)).alloc (.cells #[] 3) = WA at *
    refine wp_append_src (.tmp 9) (.tmp 11) 48 3 _ 1 8 rfl Tryz.underlying48 infoI8 rfl (by decide) (.slice (some ⟨w.heap.size + 1 + 1, 0, none⟩) 0 0) 0 [] rfl (row_blk0 A1 1) (.slice ab xb.length pb) xb.length (intC xb) rfl (HB.out.src.same FA) (by simp [intC]) (intC_one _) (by omega) (by omega) ?_
    intro ga cap1 W1 r1 f1 b1
    refine hK _ _ ?_
    clear hK K
    simp only [Nat.zero_add, List.nil_append] at r1 b1 ⊢
    have sA := blk_lt A1
    have X1 := Lib.hid (f1.keep A2 (by simp [Value.ownBlock]; omega)); have Y1 := Lib.hid (f1.keep A3 (by simp [Value.ownBlock]))
    have F1 := Lib.hid (FA.step f1 (fun i hi => by simp [Value.ownBlock] at hi; exact .inr (by omega)))
    have G1 : ∀ g, (Value.slice ga xb.length cap1).ownBlock = some g → w.heap.size + 1 < g := fun g hg => by
      have := FA.size
      rcases b1 with b1 | b1 <;> (rw [b1] at hg; simp [Value.ownBlock] at hg; omega)
    have HG1 := Lib.hid G1; have HR1 := Lib.hid r1
    clear A1 A2 A3 FA f1 b1 r1 G1
    go_wp2_with (first | ((with_reducible refine wpList_of_wp (o := ⟨some 15, _, _, _, _, _⟩) rfl (fun K hK => ?_)); apply stop_in; case _other => exact trivial))
    (refine stop_in ?_ ?_; rotate_left; exact trivial)
    refine wp_append_src (.tmp 12) (.tmp 14) 48 3 (.int .i64 0) 1 8 rfl Tryz.underlying48 infoI8 rfl (by decide) (.slice ga xb.length cap1) xb.length (intC xb) rfl (row_fr HR1.out (Fr.alloc [] W1 (.cells #[.int .i64 n] 3)) (by simp)) _ 1 [.int .i64 n] rfl (srcAt_one W1 (.int .i64 n) 3) rfl (by simp [Value.oneCell']) (by omega) (by omega) ?_
    intro gb cap2 W2 r2 f2 b2
    refine hK _ _ ?_
    clear hK K
    have hg1 := HG1.out
    have X2 := Lib.hid (f2.keep (heap_alloc_old _ X1.out) (fun hm => by have := hg1 w.heap.size (by simpa using hm); omega)); have Y2 := Lib.hid (f2.keep (heap_alloc_old _ Y1.out) (fun hm => by have := hg1 (w.heap.size + 1) (by simpa using hm); omega))
    have F2 := Lib.hid ((F1.out.trans (Fr.alloc [] W1 (.cells #[.int .i64 n] 3))).step f2 (fun i hi => .inr (by have := hg1 i (by simpa using hi); omega)))
    have G2 : ∀ g, (Value.slice gb (xb.length + 1) cap2).ownBlock = some g → w.heap.size + 1 < g := fun g hg => by
      rcases b2 with b2 | b2
      · rw [b2] at hg; exact hg1 g hg
      · rw [b2] at hg; simp at hg; have := blk_lt Y1.out; omega
    have HG2 := Lib.hid G2
    have HR2 : Hid (W2.ownsRow 0 3 1 (.slice gb (xb.length + 1) cap2) (xb ++ [n]).length (intC (xb ++ [n]))) := Lib.hid (by
      have e : intC (xb ++ [n]) = intC xb ++ [.int .i64 n] := by simp [intC]
      rw [e, List.length_append]; exact r2)
    clear f2 b2 r2 G2 hg1
    have c0 := cell_of_blk X2.out 0; have c1 := cell_of_blk X2.out 1; have c2 := cell_of_blk X2.out 2; have c3 := cell_of_blk X2.out 3; have c4 := cell_of_blk X2.out 4; have c5 := cell_of_blk X2.out 5
    have z4 := free_of_blk X2.out 4
    have y0 := cell_of_blk Y2.out 0; have y1 := cell_of_blk Y2.out 1; have y2 := cell_of_blk Y2.out 2; have y3 := cell_of_blk Y2.out 3; have y4 := cell_of_blk Y2.out 4; have y5 := cell_of_blk Y2.out 5
    have v0 := free_of_blk Y2.out 0; have v1 := free_of_blk Y2.out 1; have v2 := free_of_blk Y2.out 2; have v3 := free_of_blk Y2.out 3; have v4 := free_of_blk Y2.out 4; have v5 := free_of_blk Y2.out 5
    go_wp2_with fail
    have q0 := (Fr.setCell (fp := [w.heap.size]) W2 (p := ⟨w.heap.size, 4, none⟩) (.slice gb (xb.length + 1) cap2) (by simp)).keep Y2.out (by simp)
    have q1 := heap_setCell_same (i := 0) (.int .i64 xp) q0
    have q2 := heap_setCell_same (i := 1) (.int .i64 xf) q1
    have q3 := heap_setCell_same (i := 2) (.int .i64 xt) q2
    have q4 := heap_setCell_same (i := 3) (.slice an xn.length pn) q3
    have q5 := heap_setCell_same (i := 4) (.slice gb (xb.length + 1) cap2) q4
    have q6 := heap_setCell_same (i := 5) (.int .i64 xg) q5
    simp only [List.setIfInBounds_toArray, List.set_cons_succ, List.set_cons_zero] at q6
    have FS : Fr [w.heap.size, w.heap.size + 1] W2 _ := ((((((Fr.setCell W2 (p := ⟨w.heap.size, 4, none⟩) (.slice gb (xb.length + 1) cap2) (by simp)).trans (Fr.setCell _ (p := ⟨w.heap.size + 1, 0, none⟩) (.int .i64 xp) (by simp))).trans (Fr.setCell _ (p := ⟨w.heap.size + 1, 1, none⟩) (.int .i64 xf) (by simp))).trans (Fr.setCell _ (p := ⟨w.heap.size + 1, 2, none⟩) (.int .i64 xt) (by simp))).trans (Fr.setCell _ (p := ⟨w.heap.size + 1, 3, none⟩) (.slice an xn.length pn) (by simp))).trans (Fr.setCell _ (p := ⟨w.heap.size + 1, 4, none⟩) (.slice gb (xb.length + 1) cap2) (by simp))).trans (Fr.setCell _ (p := ⟨w.heap.size + 1, 5, none⟩) (.int .i64 xg) (by simp))
    generalize ((((((W2.setCell ⟨w.heap.size, 4, none⟩ (.slice gb (xb.length + 1) cap2)).setCell ⟨w.heap.size + 1, 0, none⟩ (.int .i64 xp)).setCell ⟨w.heap.size + 1, 1, none⟩ (.int .i64 xf)).setCell ⟨w.heap.size + 1, 2, none⟩ (.int .i64 xt)).setCell ⟨w.heap.size + 1, 3, none⟩ (.slice an xn.length pn)).setCell ⟨w.heap.size + 1, 4, none⟩ (.slice gb (xb.length + 1) cap2)).setCell ⟨w.heap.size + 1, 5, none⟩ (.int .i64 xg) = WF at *
    have k0 := cell_of_blk q6 0; have k1 := cell_of_blk q6 1; have k2 := cell_of_blk q6 2; have k3 := cell_of_blk q6 3; have k4 := cell_of_blk q6 4; have k5 := cell_of_blk q6 5
    have FE : Fr [] w WF := F2.out.step FS (fun i hi => by simp at hi; exact .inr (by omega))
    have hg2 := HG2.out
    refine bodyPost_ret (by simp [results, Tryz.results29, go_sem, k0, k1, k2, k3, k4, k5]; try rfl) rfl ?_
    exact ⟨FE, ⟨⟨xp, xf, xt, xn, xb ++ [n], xg⟩, .slice an xn.length pn, .slice gb (xb.length + 1) cap2⟩, rfl, HN.out.same FE, intsR_of_row' (row_fr HR2.out FS (fun g hg hm => by have := hg2 g hg; simp at hm; omega)), fun g hg => by
      rcases hg with hg | hg
      · exact .inl hg
      · exact .inr (.inr (by have := hg2 g hg; omega)), fun hok hn => ⟨hok.pub, hok.f, hok.t, hok.gives, hok.needs, fun m hm => (List.mem_append.1 hm).elim (hok.bars m) (fun h => by rw [List.mem_singleton] at h; subst h; exact hn)⟩⟩

theorem flat_setB {α : Type} {enc : α → List Value} {c : Nat} (hc : ∀ x, (enc x).length = c) : ∀ (l : List α) (k j : Nat) (x : α) (u : Value) (hk : k < l.length), j < c → (enc l[k]).set j u = enc x → (l.flatMap enc).set (k * c + j) u = (l.set k x).flatMap enc
  | [], k, _, _, _, hk, _, _ => by simp at hk
  | y :: l, 0, j, x, u, _, hj, hx => by
    simp only [List.getElem_cons_zero] at hx
    simp only [List.flatMap_cons, List.set_cons_zero, Nat.zero_mul, Nat.zero_add]
    rw [List.set_append_left _ _ (by rw [hc]; exact hj), hx]
  | y :: l, k + 1, j, x, u, hk, hj, hx => by
    simp only [List.getElem_cons_succ] at hx
    simp only [List.flatMap_cons, List.set_cons_succ]
    rw [List.set_append_right _ _ (by rw [hc, Nat.succ_mul]; omega), ← flat_setB hc l k j x u (by simpa using hk) hj hx]
    congr 2
    rw [hc, Nat.succ_mul]; omega
theorem row_setB {α : Type} {enc : α → List Value} {c : Nat} (hc : ∀ x, (enc x).length = c) {w : World} {e : TypeId} {g cap n : Nat} {l : List α} (h : w.ownsRow 0 e c (.slice (some ⟨g, 0, none⟩) n cap) n (l.flatMap enc)) (k j : Nat) (x : α) (u : Value) (hk : k < l.length) (hj : j < c) (hx : (enc l[k]).set j u = enc x) :
    (w.setCell ⟨g, k * c + j, none⟩ u).ownsRow 0 e c (.slice (some ⟨g, 0, none⟩) n cap) n ((l.set k x).flatMap enc) := by
  have h1 := row_set h (k * c + j) u (by
    rw [flat_len hc]
    have : (k + 1) * c ≤ l.length * c := Nat.mul_le_mul_right c hk
    rw [Nat.succ_mul] at this
    omega)
  rw [flat_setB hc l k j x u hk hj hx] at h1
  exact h1
theorem row_frzB {w : World} {e : TypeId} {size g n m cap : Nat} {xs : List Value} (h : w.ownsRow 0 e size (.slice (some ⟨g, 0, none⟩) m cap) n xs) (i : Nat) : w.frozen? ⟨g, i, none⟩ = false := by
  rcases h.2 with ⟨h0, _⟩ | ⟨g', cap', cur, hv, r0, hg, _⟩
  · cases h0
  · simp only [Value.slice.injEq, Option.some.injEq, Addr.mk.injEq] at hv
    obtain ⟨⟨rfl, _⟩, _⟩ := hv
    exact free_of_blk hg i
/-- A clause is stored. -/
def clPut (w : World) (g k : Nat) (y : ClV) : World := (((((w.setCell ⟨g, k * 6, none⟩ (.int .i64 y.x.pub)).setCell ⟨g, k * 6 + 1, none⟩ (.int .i64 y.x.f)).setCell ⟨g, k * 6 + 2, none⟩ (.int .i64 y.x.t)).setCell ⟨g, k * 6 + 3, none⟩ y.vn).setCell ⟨g, k * 6 + 4, none⟩ y.vb).setCell ⟨g, k * 6 + 5, none⟩ (.int .i64 y.x.gives)
theorem clPut_fr (w : World) (g k : Nat) (y : ClV) : Fr [g] w (clPut w g k y) := (((((Fr.setCell _ _ (by simp)).trans (Fr.setCell _ _ (by simp))).trans (Fr.setCell _ _ (by simp))).trans (Fr.setCell _ _ (by simp))).trans (Fr.setCell _ _ (by simp))).trans (Fr.setCell _ _ (by simp))
theorem clC_len6 : ∀ y : ClV, (clC y).length = 6 := fun _ => rfl
theorem clPut_row {w : World} {g cap n : Nat} {zs : List ClV} (h : w.ownsRow 0 67 6 (.slice (some ⟨g, 0, none⟩) n cap) n (zs.flatMap clC)) (k : Nat) (y : ClV) (hk : k < zs.length) : (clPut w g k y).ownsRow 0 67 6 (.slice (some ⟨g, 0, none⟩) n cap) n ((zs.set k y).flatMap clC) := by
  have h0 := row_setB clC_len6 h k 0 ⟨⟨y.x.pub, zs[k].x.f, zs[k].x.t, [], [], zs[k].x.gives⟩, zs[k].vn, zs[k].vb⟩ (.int .i64 y.x.pub) hk (by omega) rfl
  have h1 := row_setB clC_len6 h0 k 1 ⟨⟨y.x.pub, y.x.f, zs[k].x.t, [], [], zs[k].x.gives⟩, zs[k].vn, zs[k].vb⟩ (.int .i64 y.x.f) (by simpa using hk) (by omega) (by rw [List.getElem_set_self]; rfl)
  have h2 := row_setB clC_len6 h1 k 2 ⟨⟨y.x.pub, y.x.f, y.x.t, [], [], zs[k].x.gives⟩, zs[k].vn, zs[k].vb⟩ (.int .i64 y.x.t) (by simpa using hk) (by omega) (by rw [List.getElem_set_self]; rfl)
  have h3 := row_setB clC_len6 h2 k 3 ⟨⟨y.x.pub, y.x.f, y.x.t, [], [], zs[k].x.gives⟩, y.vn, zs[k].vb⟩ y.vn (by simpa using hk) (by omega) (by rw [List.getElem_set_self]; rfl)
  have h4 := row_setB clC_len6 h3 k 4 ⟨⟨y.x.pub, y.x.f, y.x.t, [], [], zs[k].x.gives⟩, y.vn, y.vb⟩ y.vb (by simpa using hk) (by omega) (by rw [List.getElem_set_self]; rfl)
  have h5 := row_setB clC_len6 h4 k 5 y (.int .i64 y.x.gives) (by simpa using hk) (by omega) (by rw [List.getElem_set_self]; rfl)
  simp only [List.set_set, Nat.add_zero] at h5
  exact h5
theorem RbOwn.putCl {W : World} {g cap k : Nat} {vr vf : Value} {zs : List ClV} {c : Rb} {y : ClV} (h : RbOwn 0 W (.slice (some ⟨g, 0, none⟩) zs.length cap) vr vf zs c) (hk : k < zs.length) (ok : RbOk c) (hy : ClOk y.x) (hn : IntsR W y.vn y.x.needs) (hb : IntsR W y.vb y.x.bars) (hg : ∀ g', y.vn.ownBlock = some g' ∨ y.vb.ownBlock = some g' → g' ≠ g) :
    RbAt (clPut W g k y) (.slice (some ⟨g, 0, none⟩) zs.length cap) vr vf (zs.set k y) ⟨c.cls.set k y.x, c.rps, c.fas⟩ := by
  have hf := clPut_fr W g k y
  have hns : ∀ {v : Value}, (v.ownBlock ≠ some g) → ∀ g', v.ownBlock = some g' → g' ∉ [g] := fun hv g' hg' hm => by rw [List.mem_singleton] at hm; subst hm; exact hv hg'
  have key : ∀ z, z ∈ zs.set k y → IntsAt (clPut W g k y) z.vn z.x.needs ∧ IntsAt (clPut W g k y) z.vb z.x.bars := fun z hz => by
    rcases List.mem_or_eq_of_mem_set hz with hz | rfl
    · exact ⟨((h.needs z hz).fr hf (hns fun e => (h.term z hz g (.inl e)).2.2.1 rfl)).sl, ((h.bars z hz).fr hf (hns fun e => (h.term z hz g (.inr e)).2.2.1 rfl)).sl⟩
    · exact ⟨(hn.fr hf (hns fun e => hg g (.inl e) rfl)).sl, (hb.fr hf (hns fun e => hg g (.inr e) rfl)).sl⟩
  refine ⟨by rw [h.eq, List.map_set], ⟨by rw [List.length_set]; exact sl_of_row (clPut_row h.cls k y hk), fun z hz => (key z hz).1, fun z hz => (key z hz).2⟩, sl_of_row (row_fr h.rps hf (hns fun e => (h.nc g rfl).2.1 e)), sl_of_row (row_fr h.fas hf (hns fun e => (h.nc g rfl).2.2 e)), ?_⟩
  exact ⟨fun z hz => (List.mem_or_eq_of_mem_set hz).elim (ok.cls z) (fun e => by rw [e]; exact hy), ok.rps, ok.fas⟩
theorem RbOwn.putRp {W : World} {g cap k : Nat} {vc vf : Value} {zs : List ClV} {c : Rb} {n : Int} (h : RbOwn 0 W vc (.slice (some ⟨g, 0, none⟩) c.rps.length cap) vf zs c) (hk : k < c.rps.length) (ok : RbOk c) (hn : I64 n) :
    RbAt (W.setCell ⟨g, k * 3, none⟩ (.int .i64 n)) vc (.slice (some ⟨g, 0, none⟩) c.rps.length cap) vf zs ⟨c.cls, c.rps.set k { c.rps[k] with cl := n }, c.fas⟩ := by
  have hf : Fr [g] W (W.setCell ⟨g, k * 3, none⟩ (.int .i64 n)) := Fr.setCell _ _ (by simp)
  have hns : ∀ {v : Value}, (v.ownBlock ≠ some g) → ∀ g', v.ownBlock = some g' → g' ∉ [g] := fun hv g' hg' hm => by rw [List.mem_singleton] at hm; subst hm; exact hv hg'
  have hr := row_setB (enc := rpC) (c := 3) (fun _ => rfl) h.rps k 0 { c.rps[k] with cl := n } (.int .i64 n) hk (by omega) rfl
  refine ⟨h.eq, ⟨sl_of_row (row_fr h.cls hf (hns fun e => (h.nc g e).2.1 rfl)), fun z hz => ((h.needs z hz).fr hf (hns fun e => (h.term z hz g (.inl e)).2.2.2.1 rfl)).sl, fun z hz => ((h.bars z hz).fr hf (hns fun e => (h.term z hz g (.inr e)).2.2.2.1 rfl)).sl⟩, by rw [List.length_set]; exact sl_of_row hr, sl_of_row (row_fr h.fas hf (hns fun e => (h.nr g rfl).2 e)), ?_⟩
  exact ⟨ok.cls, fun z hz => (List.mem_or_eq_of_mem_set hz).elim (ok.rps z) (fun e => by rw [e]; exact ⟨hn, (ok.rps _ (List.getElem_mem hk)).pub, (ok.rps _ (List.getElem_mem hk)).frm⟩), ok.fas⟩
theorem RbOwn.putFa {W : World} {g cap k j : Nat} {vc vr : Value} {zs : List ClV} {c : Rb} {n : Int} {x : Fa} (h : RbOwn 0 W vc vr (.slice (some ⟨g, 0, none⟩) c.fas.length cap) zs c) (hk : k < c.fas.length) (ok : RbOk c) (hj : j < 6) (hx : (faC c.fas[k]).set j (.int .i64 n) = faC x) (hxo : FaOk x) :
    RbAt (W.setCell ⟨g, k * 6 + j, none⟩ (.int .i64 n)) vc vr (.slice (some ⟨g, 0, none⟩) c.fas.length cap) zs ⟨c.cls, c.rps, c.fas.set k x⟩ := by
  have hf : Fr [g] W (W.setCell ⟨g, k * 6 + j, none⟩ (.int .i64 n)) := Fr.setCell _ _ (by simp)
  have hns : ∀ {v : Value}, (v.ownBlock ≠ some g) → ∀ g', v.ownBlock = some g' → g' ∉ [g] := fun hv g' hg' hm => by rw [List.mem_singleton] at hm; subst hm; exact hv hg'
  have hr := row_setB (enc := faC) (c := 6) (fun _ => rfl) h.fas k j x (.int .i64 n) hk hj hx
  refine ⟨h.eq, ⟨sl_of_row (row_fr h.cls hf (hns fun e => (h.nc g e).2.2 rfl)), fun z hz => ((h.needs z hz).fr hf (hns fun e => (h.term z hz g (.inl e)).2.2.2.2 rfl)).sl, fun z hz => ((h.bars z hz).fr hf (hns fun e => (h.term z hz g (.inr e)).2.2.2.2 rfl)).sl⟩, sl_of_row (row_fr h.rps hf (hns fun e => (h.nr g e).2 rfl)), by rw [List.length_set]; exact sl_of_row hr, ?_⟩
  exact ⟨ok.cls, ok.rps, fun z hz => (List.mem_or_eq_of_mem_set hz).elim (ok.fas z) (fun e => by rw [e]; exact hxo)⟩
/-- Integers beside a block that holds none. -/
theorem IntsAt.box {W W' : World} {v : Value} {l : List Int} {k : Nat} {cs : Array Value} {e : TypeId} {f : Nat × Nat} (h : IntsAt W v l) (hb : W.heap[k]? = some (.cells cs e f)) (hc : ∀ (i : Nat) (z : Int), cs[i]? ≠ some (.int .i64 z)) (hf : Fr [k] W W') : IntsAt W' v l := by
  obtain ⟨a, cap, rfl, h1, h2, h3⟩ := h
  refine ⟨a, cap, rfl, h1, h2, fun h0 => ?_⟩
  obtain ⟨b, off, rfl, hcl⟩ := h3 h0
  refine ⟨b, off, rfl, fun j u hu => ?_⟩
  have hu' := hcl j u hu
  have hne : b ≠ k := fun hbk => by
    subst hbk
    rw [cell_of_blk hb] at hu'
    rw [intC, List.getElem?_map] at hu
    cases hz : l[j]? with
    | none => rw [hz] at hu; cases hu
    | some z =>
      rw [hz] at hu
      simp only [Option.map_some, Option.some.injEq] at hu
      subst hu
      exact hc _ _ hu'
  exact (World.cell?_of_block (hf.block b (World.block_lt_of_cell? W _ hu') (by simpa using hne))).trans hu'
theorem RbAt.box {W W' : World} {vc vr vf : Value} {zs : List ClV} {d : Rb} {k : Nat} {cs : Array Value} {e : TypeId} {f : Nat × Nat} (h : RbAt W vc vr vf zs d) (h1 : vc.ownBlock ≠ some k) (h2 : vr.ownBlock ≠ some k) (h3 : vf.ownBlock ≠ some k) (hb : W.heap[k]? = some (.cells cs e f)) (hc : ∀ (i : Nat) (z : Int), cs[i]? ≠ some (.int .i64 z)) (hf : Fr [k] W W') : RbAt W' vc vr vf zs d := by
  have hns : ∀ {v : Value}, (v.ownBlock ≠ some k) → ∀ g', v.ownBlock = some g' → g' ∉ [k] := fun hv g' hg' hm => by rw [List.mem_singleton] at hm; subst hm; exact hv hg'
  exact ⟨h.eq, ⟨h.cls.sl.fr hf (hns h1), fun y hy => (h.cls.needs y hy).box hb hc hf, fun y hy => (h.cls.bars y hy).box hb hc hf⟩, h.rps.fr hf (hns h2), h.fas.fr hf (hns h3), h.ok⟩
theorem nil3 (i : Nat) (z : Int) : (#[.slice none 0 0, .slice none 0 0, .slice none 0 0] : Array Value)[i]? ≠ some (.int .i64 z) := by
  match i with
  | 0 => simp
  | 1 => simp
  | 2 => simp
  | i + 3 => simp

end Go.Proofs.YtfidioedjmjddaaGreat
