/-
  dialtoneref26: Copy.
-/
import Derived.Test.YtkopnooajikpmaaGreatQFlL
import Derived.Test.YtkopnooajikpmaaGreatQL8
namespace Go.Proofs.YtkopnooajikpmaaGreat
open Go.RowKit Go.Lib

theorem RusOk.of_eq {ys zs : List RuV} (h : RusOk ys) (he : zs.map (·.x) = ys.map (·.x)) : RusOk zs := by
  have key : ∀ z, z ∈ zs → ∃ y, y ∈ ys ∧ y.x = z.x := fun z hz => by
    have : z.x ∈ ys.map (·.x) := by rw [← he]; exact List.mem_map_of_mem hz
    obtain ⟨y, hy, e⟩ := List.mem_map.1 this
    exact ⟨y, hy, e⟩
  constructor
  · intro z hz
    obtain ⟨y, hy, e⟩ := key z hz
    rw [← e]; exact h.act y hy
  · intro z hz
    obtain ⟨y, hy, e⟩ := key z hz
    rw [← e]; exact h.cds y hy
/-- Copy under way. -/
structure CoS (w : World) (dfl : Int) (v v' : Value) (zs : List RuV) (W : World) : Prop where
  fr : Fr [] w W
  fb : W.heap[w.heap.size]? = some (.cells #[v, .int .i64 dfl] 65 (0, 0))
  res : W.heap[w.heap.size + 1]? = some (.cells #[.slice none 0 0, .int .i64 0] 65 (0, 0))
  box : W.heap[w.heap.size + 1 + 1]? = some (.cells #[v', .int .i64 dfl] 65 (0, 0))
  own : FlOwn w.heap.size W v' zs
theorem CoS.same {w W W' : World} {dfl : Int} {v v' : Value} {zs : List RuV} (h : CoS w dfl v v' zs W) (hf : Fr [] W W') : CoS w dfl v v' zs W' :=
  ⟨h.fr.trans hf, hf.keep h.fb (by simp), hf.keep h.res (by simp), hf.keep h.box (by simp), h.own.same hf⟩
theorem CoS.start (w : World) (dfl : Int) (v : Value) : CoS w dfl v (.slice none 0 0) [] (((w.alloc (.cells #[v, .int .i64 dfl] 65)).alloc (.cells #[.slice none 0 0, .int .i64 0] 65)).alloc (.cells #[.slice none 0 0, .int .i64 dfl] 65)) := by
  have h := alloc3' w (.cells #[v, .int .i64 dfl] 65) (.cells #[.slice none 0 0, .int .i64 0] 65) (.cells #[.slice none 0 0, .int .i64 dfl] 65)
  exact ⟨((Fr.alloc _ _ _).trans (Fr.alloc _ _ _)).trans (Fr.alloc _ _ _), h.1, h.2.1, h.2.2, FlOwn.start _ _⟩
/-- A rule is added, and the slice is stored. -/
theorem CoS.add {w wr W W' : World} {dfl : Int} {v v' v2 : Value} {zs : List RuV} {y : RuV} {n : Nat} {xs : List Value} (h : CoS w dfl v v' zs wr) (hfr : Fr [] wr W) (hc : CdRow W y.v y.x.cds) (hy : ∀ g, y.v.ownBlock = some g → wr.heap.size ≤ g) (hr : W'.ownsRow 0 82 2 v2 n xs) (hn : n = zs.length + 1) (hx : xs = zs.flatMap ruC ++ ruC y)
    (hf : Fr v'.ownBlock.toList W W') (hb : v2.ownBlock = v'.ownBlock ∨ v2.ownBlock = some W.heap.size) :
    W'.heap[w.heap.size + 1 + 1]? = some (.cells #[v', .int .i64 dfl] 65 (0, 0)) ∧ CoS w dfl v v2 (zs ++ [y]) (W'.setCell ⟨w.heap.size + 1 + 1, 0, none⟩ v2) := by
  have hW := h.same hfr
  have kp : ∀ {b : Nat} {cs : Array Value}, W.heap[b]? = some (.cells cs 65 (0, 0)) → W'.heap[b]? = some (.cells cs 65 (0, 0)) := fun hb => hf.keep hb (fun hq => row_box hW.own.row hb (by decide) (by simpa using hq))
  have hbox := kp hW.box
  have hO : FlOwn w.heap.size W' v2 (zs ++ [y]) := hW.own.add (y := y) hW.fr.size hr hn hx hf hb hc (fun g hg => Nat.le_trans h.fr.size (hy g hg)) (fun z hz g hg hg' => by
    have h3 := h.own.lt hz hg
    have h4 := hy g hg'
    omega)
  refine ⟨hbox, ?_⟩
  exact {
    fr := (hW.fr.step hf (fun i hi => .inr (h.own.newR i (by simpa using hi)))).step (Fr.setCell (fp := [w.heap.size + 1 + 1]) _ _ (by simp)) (fun i hi => by simp at hi; exact .inr (by omega))
    fb := heap_setCell_other _ (kp hW.fb) (by simp; omega)
    res := heap_setCell_other _ (kp hW.res) (by simp)
    box := heap_setCell_same _ hbox
    own := hO.box hbox (by decide) (by decide) (Fr.setCell (fp := [w.heap.size + 1 + 1]) W' (p := ⟨w.heap.size + 1 + 1, 0, none⟩) _ (by simp)) }
/-- What a region that draws reads. -/
structure CoC (B : Nat) (v v' : Value) (dfl : Int) (rb ro : Nat) (u : Value) (act : Int) (W : World) : Prop where
  fb : W.heap[B]? = some (.cells #[v, .int .i64 dfl] 65 (0, 0))
  box : W.heap[B + 1 + 1]? = some (.cells #[v', .int .i64 dfl] 65 (0, 0))
  c0 : W.cell? ⟨rb, ro, none⟩ = some u
  c1 : W.cell? ⟨rb, ro + 1, none⟩ = some (.int .i64 act)
theorem CoC.fr {B rb ro : Nat} {v v' u : Value} {dfl act : Int} {W W' : World} {S : List Nat} (h : CoC B v v' dfl rb ro u act W) (hf : Fr S W W') (h1 : B ∉ S) (h2 : B + 1 + 1 ∉ S) (h3 : rb ∉ S) : CoC B v v' dfl rb ro u act W' := by
  have hk := hf.block rb (World.block_lt_of_cell? W _ h.c0) h3
  exact ⟨hf.keep h.fb h1, hf.keep h.box h2, (World.cell?_of_block hk).trans h.c0, (World.cell?_of_block hk).trans h.c1⟩

set_option maxRecDepth 100000 in
set_option maxHeartbeats 4000000 in
theorem copy26_c {N : Nat} (v : Value) (ys : List RuV) (dfl : Int) (w : World) (h : FlOwn N w v ys) (hok : RusOk ys) (hl : ys.length ≤ 8) :
    Calls Tryz.prog 36 #[.agg #[v, .int .i64 dfl]] w fun e w' => Fr [] w w' ∧ ∃ v' zs, e = .returned (.agg #[v', .int .i64 dfl]) ∧ FlOwn w.heap.size w' v' zs ∧ zs.map (·.x) = ys.map (·.x) := by
  obtain ⟨av, pv, rfl⟩ := (sl_of_row h.row).val
  have HO := Lib.hid h; have HK := Lib.hid hok
  clear h hok
  have S0 := Lib.hid (CoS.start w dfl (.slice av ys.length pv))
  go_enter Tryz.func36, Tryz.ntmps36
  go_upto_block 0 with fail
  go_cut [] (fun W => ∃ v' zs, Hid (zs.map (·.x) = ys.map (·.x)) ∧ Hid (CoS w dfl (.slice av ys.length pv) v' zs W))
  case first =>
    go_wp2_with fail
    go_loopw [4] (fun s wr => ∃ (i : Nat) (v' : Value) (zs : List RuV), i ≤ ys.length ∧ s = .int .i64 i ∧ Hid (zs.map (·.x) = (ys.take i).map (·.x)) ∧ Hid (CoS w dfl (.slice av ys.length pv) v' zs wr)) (fun s _ => ys.length - (intOf s).toNat)
    case atStart => exact ⟨0, _, [], Nat.zero_le _, rfl, Lib.hid rfl, S0⟩
    case round =>
      obtain ⟨i, v', zs, hi, rfl, HE, H⟩ := hrel
      obtain ⟨az, pz, rfl⟩ := (sl_of_row H.out.own.row).val
      have t0 := cell_of_blk H.out.fb 0
      have t2 := cell_of_blk H.out.box 0
      by_cases hlt : i < ys.length
      · have HZL : Hid (zs.length = i) := Lib.hid (by have := congrArg List.length HE.out; simp at this; omega)
        have hO := HO.out.same H.out.fr
        obtain ⟨rb, ro, rcap, hrv, hrc⟩ := ruRow_cells (sl_of_row hO.row) i hlt
        cases hrv
        have e0 := hrc 0 _ rfl
        have e1 := hrc 1 _ rfl
        simp only [Nat.add_zero] at e0 e1
        have hrow := hO.cds _ (List.getElem_mem hlt)
        have hl4 := (HK.out.cds _ (List.getElem_mem hlt)).1
        have HT : Hid ((ys.take (i + 1)).map (·.x) = (ys.take i).map (·.x) ++ [ys[i].x]) := Lib.hid (by rw [List.take_succ_eq_append_getElem hlt, List.map_append]; rfl)
        have hrbl : rb < w.heap.size := by
          have := ownsRow_lt HO.out.row (g := rb) rfl
          exact this
        generalize ys[i] = y at *
        obtain ⟨⟨l, act⟩, u⟩ := y
        simp only at e0 e1 hrow hl4 HT
        obtain ⟨au, pu, rfl⟩ := (sl_of_row hrow).val
        have SRC := Lib.hid (srcAt_of_row hrow)
        have HRB := Lib.hid hrow
        clear hrc hO hrow
        go_wp2_with fail
        have Y0 : CoC w.heap.size (.slice (some ⟨rb, ro, none⟩) ys.length pv) (.slice az zs.length pz) dfl rb (ro + i * 2) (.slice au l.length pu) act wr := ⟨H.out.fb, H.out.box, e0, e1⟩
        have Y1 := Y0.fr (Fr.drew [] wr) (by simp) (by simp) (by simp)
        have F1 := Fr.drew [] wr
        refine reg_fin (CoC w.heap.size (.slice (some ⟨rb, ro, none⟩) ys.length pv) (.slice az zs.length pz) dfl rb (ro + i * 2) (.slice au l.length pu) act) 20 [0, 1, 2, 3, 4, 5, 6, 7, 9, 10, 11, 12, 13, 14, 8, 15, 16, 17, 18, 19, 20] (by kernel_rfl) (by kernel_rfl) (by kernel_rfl) rfl ?_
        generalize wr.drew = WD at Y1 F1 ⊢
        clear Y0 t0 t2 e0 e1
        iterate 14 (refine fin_take (v := ?_) rfl rfl rfl rfl Y1 (fun w hS => ?_) ?_; rotate_left; (focus (obtain ⟨s, y, c0, c1⟩ := hS; have s0 := cell_of_blk s 0; have y0 := cell_of_blk y 0; clear s y; go_simp; first | rfl | (rw [if_pos (by omega)]))); simp only [List.setIfInBounds_toArray, List.set_cons_succ, List.set_cons_zero])
        refine fin_do rfl rfl rfl (fun K hK => ?_)
        go_simp
        have FA := Fr.alloc [] WD (.cells #[] 93)
        have RE := row_empty WD 93 4
        have Y2 := Y1.fr FA (by simp) (by simp) (by simp)
        refine hK _ _ Y2 ?_
        clear hK K
        try simp only [Act.put, List.setIfInBounds_toArray, List.set_cons_succ, List.set_cons_zero]
        have hge : wr.heap.size ≤ WD.heap.size := F1.size
        have F2 := F1.trans FA
        generalize WD.alloc (.cells #[] 93) = WE at *
        generalize WD.heap.size = gE at *
        refine fin_do (o := ⟨some 30, _, _, _, _, _⟩) rfl rfl rfl (fun K hK => ?_)
        refine wp_append_src (.tmp 23) (.tmp 29) 80 93 _ 4 32 rfl Tryz.underlying80 infoCd rfl (by decide) (.slice (some ⟨gE, 0, none⟩) 0 0) 0 [] rfl RE (.slice au l.length pu) l.length (l.flatMap cdC) rfl (SRC.out.same F2) (flat_len (enc := cdC) (fun _ => rfl) l) (cdC_one _) (by omega) (by omega) ?_
        intro ga cap W6 r6 f6 o6
        simp only [Nat.zero_add, List.nil_append] at r6 o6 ⊢
        have hne : gE ≠ rb ∧ gE ≠ w.heap.size ∧ gE ≠ w.heap.size + 1 + 1 := by
          have := blk_lt H.out.box
          omega
        have Y3 := Y2.fr f6 (by simp [Value.ownBlock]; omega) (by simp [Value.ownBlock]; omega) (by simp [Value.ownBlock]; omega)
        have F6 : Fr [] wr W6 := F2.step f6 (fun q hq => by simp [Value.ownBlock] at hq; exact .inr (by omega))
        have hnew : ∀ g, (Value.slice ga l.length cap).ownBlock = some g → wr.heap.size ≤ g := fun g hg => by
          have hs := F2.size
          rcases o6 with o6 | o6
          · rw [o6] at hg; simp [Value.ownBlock] at hg; omega
          · rw [o6] at hg; cases hg; exact hs
        refine hK _ _ Y3 ?_
        clear hK K
        try simp only [Act.put, List.setIfInBounds_toArray, List.set_cons_succ, List.set_cons_zero]
        (refine fin_take (v := ?_) rfl rfl rfl rfl Y3 (fun w hS => ?_) ?_; rotate_left; (focus (go_simp; rfl)); try simp only [List.setIfInBounds_toArray, List.set_cons_succ, List.set_cons_zero])
        refine fin_do rfl rfl rfl (fun K hK => ?_)
        go_simp
        have FB := Fr.alloc [] W6 (.cells #[.slice ga l.length cap, .int .i64 act] 82)
        have HSr := srcAt_new W6 #[.slice ga l.length cap, .int .i64 act] 82
        have Y4 := Y3.fr FB (by simp) (by simp) (by simp)
        have r7 := row_fr r6 FB (by simp)
        have F7 := F6.trans FB
        refine hK _ _ Y4 ?_
        clear hK K
        try simp only [Act.put, List.setIfInBounds_toArray, List.set_cons_succ, List.set_cons_zero]
        generalize W6.alloc (.cells #[.slice ga l.length cap, .int .i64 act] 82) = W7 at *
        generalize W6.heap.size = gS at *
        refine fin_do (o := ⟨some 33, _, _, _, _, _⟩) rfl rfl rfl (fun K hK => ?_)
        refine wp_append_src (.tmp 16) (.tmp 32) 63 82 _ 2 32 rfl Tryz.underlying63 infoRu rfl (by decide) (.slice az zs.length pz) zs.length _ rfl (H.out.same F7).own.row (.slice (some ⟨gS, 0, none⟩) 1 1) 1 (ruC ⟨⟨l, act⟩, .slice ga l.length cap⟩) rfl HSr rfl (by simp [ruC, Value.oneCell']) (by have := HZL.out; omega) (by have := HZL.out; omega) ?_
        intro gb cab W8 r8 f8 o8
        have hrow7 := (H.out.same F7).own.row
        have Y5 := Y4.fr f8 (fun hm => row_box hrow7 Y4.fb (by decide) (by simpa using hm)) (fun hm => row_box hrow7 Y4.box (by decide) (by simpa using hm)) (fun hm => by have := H.out.own.newR _ (by simpa using hm); omega)
        refine hK _ _ Y5 ?_
        clear hK K
        try simp only [Act.put, List.setIfInBounds_toArray, List.set_cons_succ, List.set_cons_zero]
        (refine fin_take (v := ?_) rfl rfl rfl rfl Y5 (fun w hS => ?_) ?_; rotate_left; (focus (go_simp; rfl)); try simp only [List.setIfInBounds_toArray, List.set_cons_succ, List.set_cons_zero])
        obtain ⟨hbx2, hM⟩ := H.out.add (y := ⟨⟨l, act⟩, .slice ga l.length cap⟩) F7 r7 hnew r8 rfl rfl f8 o8
        have u1 : W8.cell? ⟨w.heap.size + 1 + 1, 0, none⟩ = some (.slice az zs.length pz) := cell_of_blk hbx2 0
        have u2 := free_of_blk hbx2 0
        refine fin_last (o := ⟨none, _, _, _, _, _⟩) rfl rfl rfl (fun K hK => ?_)
        go_simp
        try go_upon
        try go_simp
        refine hK _ _ ?_
        clear hK K
        have HM := Lib.hid hM
        clear u1 u2 Y1 Y2 Y3 Y4 Y5 F1 F2 F6 F7 FA FB RE HSr r6 r7 r8 f6 f8 o6 o8 hM hbx2 hnew hrow7
        go_wp2_with fail
        go_roundw
        case rel => exact ⟨i + 1, _, zs ++ [⟨⟨l, act⟩, .slice ga l.length cap⟩], by omega, by go_num, Lib.hid (by rw [HT.out, ← HE.out, List.map_append]; rfl), by simpa using HM⟩
        case measure => simp [intOf]; omega
      · obtain rfl : i = ys.length := by omega
        go_wp2_with fail
        go_meet
        case rel => exact ⟨_, zs, Lib.hid (by rw [HE.out, List.take_length]), H⟩
  case rest =>
    obtain ⟨v', zs, HE, H⟩ := hcut
    obtain ⟨az, pz, rfl⟩ := (sl_of_row H.out.own.row).val
    have t0 := cell_of_blk H.out.box 0; have t1 := cell_of_blk H.out.box 1
    have k0 := cell_of_blk H.out.res 0; have k1 := cell_of_blk H.out.res 1
    have z0 := free_of_blk H.out.res 0; have z1 := free_of_blk H.out.res 1
    go_wp2_with fail
    have hs1 := heap_setCell_same (i := 1) (.int .i64 dfl) (heap_setCell_same (i := 0) (.slice az zs.length pz) H.out.res)
    have FS : Fr [w.heap.size + 1] wc ((wc.setCell ⟨w.heap.size + 1, 0, none⟩ (.slice az zs.length pz)).setCell ⟨w.heap.size + 1, 1, none⟩ (.int .i64 dfl)) := (Fr.setCell _ _ (by simp)).trans (Fr.setCell _ _ (by simp))
    have hO := H.out.own.box H.out.res (by decide) (by decide) FS
    have FZ := H.out.fr.step FS (fun i hi => by simp at hi; exact .inr (by omega))
    generalize (wc.setCell ⟨w.heap.size + 1, 0, none⟩ (.slice az zs.length pz)).setCell ⟨w.heap.size + 1, 1, none⟩ (.int .i64 dfl) = W3 at *
    clear t0 t1 k0 k1 z0 z1
    have k0 : W3.cell? ⟨w.heap.size + 1, 0, none⟩ = some (.slice az zs.length pz) := cell_of_blk hs1 0
    have k1 : W3.cell? ⟨w.heap.size + 1, 1, none⟩ = some (.int .i64 dfl) := cell_of_blk hs1 1
    refine bodyPost_ret (by simp [results, Tryz.results36, go_sem, k0, k1]; try rfl) rfl ?_
    first | exact ⟨FZ, _, zs, rfl, hO, HE.out⟩ | exact ⟨FZ, _, rfl, zs, hO, HE.out⟩

end Go.Proofs.YtkopnooajikpmaaGreat
