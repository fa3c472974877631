/-
  statute: Decide.
-/
import Derived.Test.YtfidioedjmjddaaGreatQStD3
namespace Go.Proofs.YtfidioedjmjddaaGreat
open Go.RowKit Go.Lib Go.Maps

/-- What Decide returns. -/
def Decided (c : Rb) (q : Qn) (w : World) (e : Ending) (w' : World) : Prop :=
  Fr [] w w' ∧ ((okB c q = false ∧ e = .returned (.tuple #[.bool false, .slice none 0 0, .int .i64 80])) ∨
    (okB c q = true ∧ ∃ v, e = .returned (.tuple #[.bool (decideA c q), v, .int .i64 0]) ∧ FdRow w' v (decideL c q) ∧ ∀ g, v.ownBlock = some g → w.heap.size ≤ g))

theorem fdRow_keep {w w' : World} {v : Value} {l : List Fd} (h : FdRow w v l) (hk : ∀ g, v.ownBlock = some g → w'.heap[g]? = w.heap[g]?) : FdRow w' v l := ownsRow_keep h hk
theorem prune_len {c : Rb} {fs cs : List Int} {n : Int} {h : Bool} : ∀ (k : Nat) (l : List Fd), (prune c fs cs n h k l).length ≤ l.length
  | 0, l => Nat.le_refl _
  | k + 1, l => by
    unfold prune
    refine Nat.le_trans (prune_len k _) ?_
    split
    · rw [List.length_eraseIdx]; split <;> omega
    · exact Nat.le_refl _

set_option maxRecDepth 100000 in
set_option maxHeartbeats 8000000 in
theorem decide_c (vc vr vf : Value) (ys : List ClV) (c : Rb) (q : Qn) (w : World) (h : RbAt w vc vr vf ys c) : Calls Tryz.prog 11 #[rbV vc vr vf, qnV q] w (Decided c q w) := by
  obtain ⟨ac, pc, rfl⟩ := h.cls.sl.val
  obtain ⟨ar, pr, rfl⟩ := h.rps.val
  obtain ⟨af, pf, rfl⟩ := h.fas.val
  obtain ⟨th, sa, at_, kn⟩ := q
  have A2 := alloc2' w (.cells #[.slice ac ys.length pc, .slice ar c.rps.length pr, .slice af c.fas.length pf] 30) (.cells #[.int .i64 th, .int .i64 sa, .int .i64 at_, .int .i64 kn] 33)
  have F2 : Fr [] w ((w.alloc (.cells #[.slice ac ys.length pc, .slice ar c.rps.length pr, .slice af c.fas.length pf] 30)).alloc (.cells #[.int .i64 th, .int .i64 sa, .int .i64 at_, .int .i64 kn] 33)) := (Fr.alloc _ _ _).trans (Fr.alloc _ _ _)
  have CO := Lib.hid (open_c _ _ _ ys c ⟨th, sa, at_, kn⟩ _ (h.same F2))
  have HA := Lib.hid A2; have HF := Lib.hid F2; clear A2 F2 h
  unfold rbV qnV at *
  simp only at CO ⊢
  go_enter Tryz.func11, Tryz.ntmps11
  go_wp2_with fail
  refine CO.out.mono ?_
  rintro e w2 ⟨f1, h1⟩
  have HQ := Lib.hid (f1.keep HA.out.2 (by simp))
  have F2 := Lib.hid (HF.out.trans f1)
  have hq1 := blk_lt HQ.out
  clear f1 CO
  rcases h1 with ⟨ho, p, rfl⟩ | ⟨ho, J, D, rfl, hJ, hD, rfl, e2, e3, _, hbm, hbj⟩
  · have Ho := Lib.hid ho; clear ho
    go_wp2_with fail
    go_ret3
    exact ⟨F2.out, .inl ⟨Ho.out, rfl⟩⟩
  · have hsa : 0 ≤ sa ∧ sa ≤ 19 := by
      have := ho
      simp only [okB, asksB, Bool.and_eq_true, isInB_iff] at this
      exact this.2.1.1.2
    obtain ⟨n, hn⟩ := Int.eq_ofNat_of_zero_le hsa.1
    subst hn
    have hn19 : n ≤ 19 := by omega
    have HDA : Hid (decideA J.c ⟨th, n, at_, kn⟩ = soB J.c J.fs J.cs n) := Lib.hid (by unfold decideA; rw [e2, e3])
    have HDL : Hid (decideL J.c ⟨th, n, at_, kn⟩ = prune J.c J.fs J.cs n (soB J.c J.fs J.cs n) n (fdTo J.c J.fs J.cs (n + 1))) := Lib.hid (by unfold decideL; rw [← e2, ← e3]; simp only [Int.toNat_natCast])
    have Ho := Lib.hid ho; have HJ := Lib.hid hJ; have HD := Lib.hid hD
    have hbl : J.bm < w2.heap.size := hD.own.lt
    have hbm2 : w.heap.size + 1 ≠ J.bm := by simp at hbm; omega
    have c1 : w2.cell? ⟨w.heap.size + 1, 1, none⟩ = some (.int .i64 n) := cell_of_blk HQ.out 1
    clear ho hJ hD e2 e3 hsa
    go_wp2_with fail
    clear c1
    go_loopw [9, 26] (fun v i wr => ∃ (k : Nat) (D' : DataW Unit), k ≤ n + 1 ∧ i = .int .i64 k ∧ Hid (Fr [J.bm] w2 wr) ∧ Hid (FoundAt wr J.bm J.fd D') ∧ Hid (FdRow wr v (fdTo J.c J.fs J.cs k)) ∧ Hid (∀ g, v.ownBlock = some g → w2.heap.size ≤ g)) (fun _ i _ => n + 1 - (intOf i).toNat)
    case atStart => exact ⟨0, D, Nat.zero_le _, rfl, Lib.hid (Fr.refl _ _), HD, Lib.hid ⟨rfl, .inl ⟨rfl, rfl⟩⟩, Lib.hid fun g hg => by cases hg⟩
    case round =>
      obtain ⟨k, D', hk, rfl, HFr, HFo, HRo, HNw⟩ := hrel
      by_cases hlt : k < n + 1
      · have hJk := HJ.out.frM HFr.out HD.out.map
        have CS := Lib.hid (so_ok J k (by omega) wr D' hJk HFo.out)
        obtain ⟨va, vp, rfl⟩ := (sl_of_row HRo.out).val
        have HBW : Hid (∀ g, (Value.slice va (fdTo J.c J.fs J.cs k).length vp).ownBlock = some g → g ≠ J.bm) := Lib.hid fun g hg => by have := HNw.out g hg; omega
        have HLn : Hid ((fdTo J.c J.fs J.cs k).length = k) := Lib.hid (fdTo_length k)
        have hkn : (fdTo J.c J.fs J.cs k).length ≤ 20 := by rw [fdTo_length]; omega
        clear hJk
        go_wp2_with fail
        refine CS.out.mono ?_
        rintro e w3 ⟨rfl, D3, j3, has3⟩
        have R3 := Lib.hid (fdRow_keep HRo.out (fun g hg => j3.fr.block g (ownsRow_lt HRo.out hg) (by simpa using HBW.out g hg)))
        have hget := j3.found.get k (by omega) has3
        have q5 : w3.cell? ⟨J.bj, 5, none⟩ = some (.map (some J.bm)) := cell_of_blk j3.js.str 5
        have J3 := Lib.hid j3
        clear j3 has3 CS
        have HX : Hid (J.fd k = fdOf J.c J.fs J.cs k) := Lib.hid rfl
        obtain ⟨y, hy⟩ : ∃ y, J.fd k = y := ⟨_, rfl⟩
        rw [hy] at hget
        rw [hy] at HX
        clear hy
        have HSu : Hid (fdTo J.c J.fs J.cs (k + 1) = fdTo J.c J.fs J.cs k ++ [y]) := Lib.hid (by rw [HX.out, fdTo_map, fdTo_map, List.range_succ]; simp)
        obtain ⟨y0, y1, y2, y3⟩ := y
        simp only [fdV] at hget
        have RA := Lib.hid (fdRow_keep (w' := w3.alloc (.cells #[.int .i64 y0, .bool y1, .int .i64 y2, .int .i64 y3] 62)) R3.out (fun g hg => Below.heap_alloc _ _ _ (ownsRow_lt R3.out hg)))
        have HSr : Hid (SrcAt (w3.alloc (.cells #[.int .i64 y0, .bool y1, .int .i64 y2, .int .i64 y3] 62)) (.slice (some ⟨w3.heap.size, 0, none⟩) 1 1) 1 [.int .i64 y0, .bool y1, .int .i64 y2, .int .i64 y3]) := Lib.hid ⟨.inr ⟨_, _, rfl, World.news_of_block (heap_alloc_new w3 (.cells #[.int .i64 y0, .bool y1, .int .i64 y2, .int .i64 y3] 62))⟩⟩
        go_wp2_with (first | ((with_reducible refine wpList_of_wp (o := ⟨some 40, _, _, _, _, _⟩) rfl (fun K hK => ?_)); refine wp_append_src (.tmp 32) (.tmp 39) 34 62 (.agg #[.int .i64 0, .bool false, .int .i64 0, .int .i64 0]) 4 32 rfl Tryz.underlying34 infoFd rfl (by decide) _ (fdTo J.c J.fs J.cs k).length _ rfl RA.out _ 1 _ rfl HSr.out rfl (by simp [Value.oneCell']) (by omega) (by omega) (fun ga cap2 w9 x1 x2 x3 => hK _ _ ?_); have X1 := Lib.hid x1; have X2 := Lib.hid x2; have X3 := Lib.hid x3; clear x1 x2 x3 hK K))
        go_roundw
        case rel =>
          have hb3 : ∀ g, g ∈ (Value.slice va (fdTo J.c J.fs J.cs k).length vp).ownBlock.toList → w2.heap.size ≤ g := fun g hg => HNw.out g (by simpa using hg)
          have hs3 := (HFr.out.trans J3.out.fr).size
          refine ⟨k + 1, D3, by omega, by go_num, Lib.hid (((HFr.out.trans J3.out.fr).trans (Fr.alloc _ _ _)).step X2.out (fun i hi => .inr (hb3 i hi))), Lib.hid ((J3.out.found.fr (Fr.alloc _ _ _)).fr' X2.out (fun hm => by have := hb3 _ hm; omega)), Lib.hid ?_, Lib.hid fun g hg => ?_⟩
          · rw [HSu.out]
            simpa [FdRow, fdC] using X1.out
          · rcases X3.out with h | h
            · rw [h] at hg; exact HNw.out g hg
            · rw [h] at hg; simp at hg; omega
        case measure => simp [intOf]; omega
      · obtain rfl : k = n + 1 := by omega
        have hJk := HJ.out.frM HFr.out HD.out.map
        have CS := Lib.hid (so_ok J n (by omega) wr D' hJk HFo.out)
        have HQk := Lib.hid (HFr.out.keep HQ.out (by simp only [List.mem_singleton]; exact hbm2))
        have c1 : wr.cell? ⟨w.heap.size + 1, 1, none⟩ = some (.int .i64 n) := cell_of_blk HQk.out 1
        clear hJk
        obtain ⟨va, vp, rfl⟩ := (sl_of_row HRo.out).val
        have HBW : Hid (∀ g, (Value.slice va (fdTo J.c J.fs J.cs (n + 1)).length vp).ownBlock = some g → g ≠ J.bm) := Lib.hid fun g hg => by have := HNw.out g hg; omega
        have HLn : (fdTo J.c J.fs J.cs (n + 1)).length = n + 1 := fdTo_length (n + 1)
        generalize fdTo J.c J.fs J.cs (n + 1) = l0 at *
        go_wp2_with fail
        refine CS.out.mono ?_
        rintro e w4 ⟨rfl, D4, j4, _⟩
        have R4 := Lib.hid (fdRow_keep HRo.out (fun g hg => j4.fr.block g (ownsRow_lt HRo.out hg) (by simpa using HBW.out g hg)))
        have F4 := Lib.hid (HFr.out.trans j4.fr)
        clear j4 CS c1
        have hso : J.so n = soB J.c J.fs J.cs n := rfl
        rw [hso]
        clear hso
        generalize soB J.c J.fs J.cs n = so at *
        go_wp2_with fail
        go_loopw [9, 12] (fun v i wr => ∃ (k : Nat) (j : Int) (l : List Fd), i = .int .i64 j ∧ (k : Int) = j + 1 ∧ k + 1 ≤ l.length ∧ l.length ≤ 20 ∧ Hid (Fr [J.bm] w2 wr) ∧ Hid (FdRow wr v l) ∧ Hid (∀ g, v.ownBlock = some g → w2.heap.size ≤ g) ∧ Hid (decideL J.c ⟨th, n, at_, kn⟩ = prune J.c J.fs J.cs n so k l)) (fun _ i _ => (intOf i + 1).toNat)
        case atStart => exact ⟨n, _, l0, rfl, by omega, by omega, by omega, F4, Lib.hid (by have := R4.out; rwa [HLn] at this), Lib.hid (by have := HNw.out; rwa [HLn] at this), HDL⟩
        case round =>
          obtain ⟨k, jj, l, rfl, hjk, hkl, hl20, HFr, HRo, HNw, HDL⟩ := hrel
          obtain ⟨va, vp, rfl⟩ := (sl_of_row HRo.out).val
          by_cases h0 : 0 < k
          · obtain ⟨k', rfl⟩ : ∃ k' : Nat, jj = k' := ⟨jj.toNat, by omega⟩
            obtain rfl : k = k' + 1 := by omega
            have CC := Lib.hid (clone_c _ l wr HRo.out (by omega))
            have HQk := Lib.hid (HFr.out.keep HQ.out (by simp only [List.mem_singleton]; exact hbm2))
            go_wp2_with fail
            refine CC.out.mono ?_
            rintro e w5 ⟨v5, rfl, r5, f5, n5⟩
            obtain ⟨g5, cap5, hv5, _, hlt5⟩ := r5.form (by omega)
            subst hv5
            have hg5 := n5 g5 rfl
            have CD := Lib.hid (delete_c g5 cap5 l k' w5 r5 (by omega) (by omega))
            have R5 := Lib.hid (fdRow_keep (w' := w5) HRo.out (fun g hg => f5.block g (ownsRow_lt HRo.out hg) (by simp)))
            have F5 := Lib.hid (HFr.out.trans (f5.mono (by simp)))
            have HQ5 := Lib.hid (f5.keep HQk.out (by simp))
            have hws := HFr.out.size
            have hnat : ((k' + 1 : Nat) : Int) = (k' : Int) + 1 := by omega
            rw [hnat] at CD
            clear f5 n5 r5 CC hnat
            go_wp2_with fail
            refine CD.out.mono ?_
            rintro e w6 ⟨rfl, r6, f6⟩
            have F6 := Lib.hid (F5.out.step f6 (fun i hi => by simp at hi; exact .inr (by omega)))
            have hne5 : ∀ g, (Value.slice va l.length vp).ownBlock = some g → g ≠ g5 := fun g hg => by have := ownsRow_lt HRo.out hg; omega
            have R6 := Lib.hid (fdRow_keep (w' := w6) R5.out (fun g hg => f6.block g (ownsRow_lt R5.out hg) (by simpa using hne5 g hg)))
            have RD := Lib.hid r6
            have hq6 := blk_lt HQk.out
            have HQ6 := Lib.hid (f6.keep HQ5.out (by simp only [List.mem_singleton]; omega))
            have c6 : w6.cell? ⟨w.heap.size + 1, 1, none⟩ = some (.int .i64 n) := cell_of_blk HQ6.out 1
            have hel : (l.eraseIdx k').length = l.length - 1 := by rw [List.length_eraseIdx, if_pos (by omega)]
            have hsl6 := sl_of_row r6
            rw [hel] at hsl6
            have CP := proves_c J n so (.slice (some ⟨g5, 0, none⟩) (l.length - 1) cap5) (l.eraseIdx k') w6 (HJ.out.frM F6.out HD.out.map) (by rw [hel]; exact hsl6)
            have HPs : Hid (prune J.c J.fs J.cs n so (k' + 1) l = prune J.c J.fs J.cs n so k' (if provesB J.c J.fs J.cs n so (l.eraseIdx k') then l.eraseIdx k' else l)) := Lib.hid rfl
            generalize hpb : provesB J.c J.fs J.cs n so (l.eraseIdx k') = pb at *
            have CPP := Lib.hid CP
            have HPB := Lib.hid hpb
            clear CP r6 f6 CD hsl6 hne5 hpb
            go_wp2_with fail
            refine CPP.out.mono ?_
            rintro e w7 ⟨rfl, f7⟩
            have F7 := Lib.hid (F6.out.trans (f7.mono (by simp)))
            have R7 := Lib.hid (fdRow_keep (w' := w7) R6.out (fun g hg => f7.block g (ownsRow_lt R6.out hg) (by simp)))
            have RD7 := Lib.hid (fdRow_keep (w' := w7) RD.out (fun g hg => f7.block g (ownsRow_lt RD.out hg) (by simp)))
            clear f7 CPP c6
            cases pb with
            | true =>
              go_wp2_with fail
              go_roundw
              case rel => exact ⟨k', _, l.eraseIdx k', rfl, by omega, by omega, by omega, F7, RD7, Lib.hid fun g hg => by simp [Value.ownBlock] at hg; omega, Lib.hid (by rw [HDL.out, HPs.out]; rfl)⟩
              case measure => simp [intOf]
            | false =>
              go_wp2_with fail
              go_roundw
              case rel => exact ⟨k', _, l, rfl, by omega, by omega, by omega, F7, R7, HNw, Lib.hid (by rw [HDL.out, HPs.out]; rfl)⟩
              case measure => simp [intOf]
          · have hk0 : k = 0 := by omega
            subst hk0
            have hjm : jj = -1 := by omega
            subst hjm
            go_wp2_with fail
            go_ret3
            have hfw : Fr [] w wr := F2.out.step HFr.out (fun i hi => by simp at hi; exact .inr (by simp at hbm; omega))
            refine ⟨hfw, .inr ⟨Ho.out, _, ?_, ?_, fun g hg => Nat.le_trans F2.out.size (HNw.out g hg)⟩⟩
            · rw [HDA.out]; rfl
            · rw [HDL.out]
              exact HRo.out

end Go.Proofs.YtfidioedjmjddaaGreat
