/-
  The reference's journal: Open.
-/
import Derived.Test.YtbogljpafpkikaaGreatDoorQRX
import Derived.Test.YtbogljpafpkikaaGreatDoorQJn11
import Derived.Test.YtbogljpafpkikaaGreatDoorQLP
import Derived.Test.YtbogljpafpkikaaGreatDoorQJn12
import Derived.Test.YtbogljpafpkikaaGreatDoorQLS
namespace Go.Proofs.YtbogljpafpkikaaGreatDoor
open Go.RowKit Go.Lib

/-- The reference's journal in memory: its block, its records' row. -/
structure RjAt (w : World) (rb xb : Nat) (vr : Value) (t : Tp) (br : Bool) : Prop where
  blk : w.heap[rb]? = some (.cells #[.pointer (some ⟨xb, 0, none⟩), vr, .int .i64 t.size, .bool br] 43 (0, 0))
  row : w.ownsRow 0 9 1 vr t.recs.length (t.recs.map Value.string)
  ne : ∀ g, vr.ownBlock = some g → g ≠ rb
def rjB (rb : Nat) (vr : Value) : List Nat := rb :: vr.ownBlock.toList
theorem RjAt.fr {w w' : World} {rb xb : Nat} {vr : Value} {t : Tp} {br : Bool} {S : List Nat} (h : RjAt w rb xb vr t br) (hf : Fr S w w') (hS : ∀ k, k ∈ rjB rb vr → k ∉ S) : RjAt w' rb xb vr t br :=
  ⟨hf.keep h.blk (hS rb (by simp [rjB])), row_fr h.row hf (fun g hg => hS g (by simp [rjB, hg])), h.ne⟩
theorem RjAt.same {w w' : World} {rb xb : Nat} {vr : Value} {t : Tp} {br : Bool} (h : RjAt w rb xb vr t br) (hf : Fr [] w w') : RjAt w' rb xb vr t br := h.fr hf (by simp)
theorem RjAt.lt {w : World} {rb xb : Nat} {vr : Value} {t : Tp} {br : Bool} (h : RjAt w rb xb vr t br) : ∀ k, k ∈ rjB rb vr → k < w.heap.size := fun k hk => by
  simp only [rjB, List.mem_cons, Option.mem_toList] at hk
  rcases hk with rfl | hk
  · exact blk_lt h.blk
  · exact ownsRow_lt h.row hk
theorem RjAt.upd {w w' : World} {rb xb : Nat} {vr : Value} {t : Tp} {br : Bool} {fx fx' : List Nat} (h : RjAt w rb xb vr t br) (hd : ∀ k, k ∈ rjB rb vr → k ∉ fx) (hu : Upd fx fx' w w') : RjAt w' rb xb vr t br ∧ ∀ k, k ∈ rjB rb vr → k ∉ fx' :=
  ⟨h.fr hu.fr hd, fun k hk hm => by
    rcases hu.sub k hm with h1 | h1
    · exact hd k hk h1
    · have := h.lt k hk; omega⟩
/-- What the reference's Open leaves. -/
def OpenR (xb : Nat) (fx : List Nat) (w : World) (o : Int × Option Tp × Dk) (e : Ending) (w' : World) : Prop := ∃ fx', RfA w' xb fx' o.2.2 ∧ Upd fx fx' w w' ∧ match o.2.1 with
  | none => e = .returned (.tuple #[.pointer none, .int .i64 o.1])
  | some t => ∃ rb vr, e = .returned (.tuple #[.pointer (some ⟨rb, 0, none⟩), .int .i64 o.1]) ∧ RjAt w' rb xb vr t false ∧ ∀ k, k ∈ rjB rb vr → w.heap.size ≤ k ∧ k ∉ fx'
theorem wp_sl_str0 {o : Oper} {a : Act} {w : World} {K : Act → World → Prop} {Q : Exit → Act → World → Prop} (x : Operand) (ho : o.op = .convert 39 9 x) (b n : Nat) (l : List UInt8) (hx : a.eval x = .slice (some ⟨b, 0, none⟩) n n) (hc : w.heap[b]? = some (.cells (byteCells l).toArray 5 (0, 0))) (hl : l.length = n)
    (h : K (a.put o.dst (.string ⟨l.toArray⟩)) w) : o.wp Tryz.prog a w K Q := by
  have hrun := run_convert_bytes_back (P := Tryz.prog) w 39 9 5 ⟨b, 0, none⟩ n l Tryz.underlying39 Tryz.underlying5 Tryz.underlying9 (fun j hj => by
    rw [add_at, cell_of_blk hc]
    simp [byteCells, hj])
  rw [hl] at hrun
  unfold Oper.wp execOp
  simp only [ho, Sem.run_bind, Sem.run_pure, Result.andThen_ok, hx, hrun]
  exact h

set_option maxRecDepth 100000 in
set_option maxHeartbeats 4000000 in
theorem rOpen_c (xb : Nat) (fx : List Nat) (D : Dk) (w : World) (h : RfA w xb fx D) (hp : D.pend.length ≤ 4000000000) : Calls Tryz.prog 46 #[.pointer (some ⟨xb, 0, none⟩)] w (OpenR xb fx w D.opens) := by
  have hok : D.Ok := by obtain ⟨_, _, hd, _⟩ := h; exact hd.ok
  have hm := hok.max
  have CR := rRead_dk xb fx D 0 D.dur.length w h (by omega) (by omega) (by omega) (by omega) (by omega)
  have HD := Lib.hid h
  have hin : insB D.dur.length 0 D.dur.length = true := by simp [insB]
  obtain ⟨sv, pv, hi, rfl⟩ := h
  obtain ⟨gs, cs, rfl, _, _⟩ := hi.sure.form hi.ok.pos
  have c0 : w.cell? ⟨xb, 0, none⟩ = some (.slice (some ⟨gs, 0, none⟩) D.dur.length cs) := cell_of_blk hi.str 0
  have hxl : xb < w.heap.size := blk_lt hi.str
  clear hi
  generalize hfx : xb :: ((Value.slice (some ⟨gs, 0, none⟩) D.dur.length cs).ownBlock.toList ++ pv.ownBlock.toList) = fx at *
  clear hfx
  by_cases ho : D.off = true
  · have hO : D.opens = (91, none, D) := by simp [Dk.opens, ho]
    rw [hO]
    rw [show D.readE 0 D.dur.length = 91 by simp [Dk.readE, ho]] at CR
    have HR := Lib.hid CR
    clear CR hO ho hin
    generalize D.dur.length = n at *
    generalize (⟨(D.readS 0 n).toArray⟩ : ByteArray) = S0 at *
    go_enter Tryz.func46, Tryz.ntmps46
    go_wp2_with fail
    refine HR.out.mono ?_
    rintro e w1 ⟨rfl, f1⟩
    have H1 := Lib.hid (HD.out.keep f1 (by simp)); have HF := Lib.hid f1
    clear f1 HR c0
    go_wp2_with fail
    go_ret2
    exact ⟨fx, H1.out, ⟨HF.out.mono (by simp), fun _ h => .inl h⟩, rfl⟩
  · have ho' : D.off = false := by simpa using ho
    rw [show D.readE 0 D.dur.length = 0 by simp [Dk.readE, ho', hin], show D.readS 0 D.dur.length = D.vis by simp only [Dk.readS, ho', hin, if_true, Bool.false_eq_true, if_false]; simp [← hok.len]] at CR
    have HR := Lib.hid CR
    have HVl : Shut (D.vis.length = D.dur.length) := ⟨hok.len⟩
    have HSz : Shut ((str D.vis).size = D.dur.length) := ⟨by rw [str_size]; exact hok.len⟩
    have HO : Shut (D.off = false) := ⟨ho'⟩
    have HBt : Shut (bts (str D.vis) = D.vis) := ⟨rfl⟩
    change Hid (Calls _ _ _ w fun e w' => e = .returned (.tuple #[.string (str D.vis), .int .i64 0]) ∧ Fr [] w w') at HR
    clear CR ho ho' hin hok
    generalize hS : str D.vis = S at *
    clear hS
    generalize hn : D.dur.length = n at *
    have HDn : Shut (D.dur.length = n) := ⟨hn⟩
    clear hn
    go_enter Tryz.func46, Tryz.ntmps46
    go_wp2_with fail
    refine HR.out.mono ?_
    rintro e w1 ⟨rfl, f1⟩
    have H1 := Lib.hid (HD.out.keep f1 (by simp)); have HF1 := Lib.hid f1
    clear f1 HR c0
    go_wp2_with fail
    have hA := heap_alloc_new w1 (.cells #[.pointer (some ⟨xb, 0, none⟩), .slice none 0 0, .int .i64 0, .bool false] 43)
    have FA := Fr.alloc [] w1 (.cells #[.pointer (some ⟨xb, 0, none⟩), .slice none 0 0, .int .i64 0, .bool false] 43)
    have hrbw := HF1.out.size
    have hsz2 : (w1.alloc (.cells #[.pointer (some ⟨xb, 0, none⟩), .slice none 0 0, .int .i64 0, .bool false] 43)).heap.size = w1.heap.size + 1 := by simp
    generalize w1.alloc (.cells #[.pointer (some ⟨xb, 0, none⟩), .slice none 0 0, .int .i64 0, .bool false] 43) = W2 at *
    have HF2 := Lib.hid (HF1.out.trans FA)
    generalize w1.heap.size = rb at *
    have HY2 : Hid (rb < W2.heap.size) := Lib.hid (by omega)
    have HJ2 : Hid (RjAt W2 rb xb (.slice none 0 0) tp0 false) := Lib.hid ⟨hA, ⟨rfl, .inl ⟨rfl, rfl⟩⟩, by simp [Value.ownBlock]⟩
    clear hA FA HF1 H1 hsz2
    refine (head2_c none 0 [] W2 (Sl.nil _) (by simp)).mono ?_
    rintro e W3 ⟨rfl, f3⟩
    rw [show headOf head0 [] = head0 from rfl]
    have HJ3 := Lib.hid (HJ2.out.same f3); have HF3 := Lib.hid (HF2.out.trans f3); have HY3 : Hid (rb < W3.heap.size) := Lib.hid (Nat.lt_of_lt_of_le HY2.out f3.size)
    clear f3 HJ2 HF2 HY2
    have HSn : Hid (S.size = n) := Lib.hid (by have := HSz.out; have := HDn.out; omega)
    have HVn : Hid (D.vis.length = n) := Lib.hid (by have := HVl.out; have := HDn.out; omega)
    clear HSz HVl
    go_upto_block 0 with fail
    go_cut [] (fun W => ∃ (vr : Value) (t : Tp), Hid (RjAt W rb xb vr t false) ∧ Hid (Fr [] w W) ∧ Hid (∀ g, vr.ownBlock = some g → w.heap.size ≤ g) ∧ Shut (openM D.vis = some t) ∧ t.size ≤ n)
    case first =>
      go_wp2_with fail
      go_loopw [8] (fun hv wr => ∃ (t : Tp) (vr : Value) (f : Nat), hv = .string t.head ∧ Hid (RjAt wr rb xb vr t false) ∧ Hid (Fr [] w wr) ∧ Hid (∀ g, vr.ownBlock = some g → w.heap.size ≤ g) ∧ Shut (t.head.size = 32) ∧ t.recs.length ≤ t.size ∧ t.size ≤ n ∧ n < t.size + f ∧ Shut (openM D.vis = ldM D.vis f t)) (fun _ wr => n + 1 - szOf rb wr)
      case atStart => exact ⟨tp0, .slice none 0 0, D.vis.length + 1, rfl, HJ3, HF3, Lib.hid (fun g hg => by cases hg), ⟨rfl⟩, Nat.le_refl _, Nat.zero_le _, by rw [HVn.out]; show n < 0 + (n + 1); omega, ⟨rfl⟩⟩
      case round =>
        clear HJ3 HF3 HY3
        obtain ⟨⟨rs, hd, sz⟩, vr, f, rfl, HJ, HF, HY, HHd, hrl, hsz, hf, HL⟩ := hrel
        simp only at hrl hsz hf HHd
        have c2 : wr.cell? ⟨rb, 2, none⟩ = some (.int .i64 sz) := cell_of_blk HJ.out.blk 2
        have HJr := HJ
        obtain ⟨g, rfl⟩ : ∃ g, f = g + 1 := ⟨f - 1, by omega⟩
        by_cases hlt : sz < n
        · have hlS : sz < S.size := by have := HSn.out; omega
          have hat : D.vis[sz]? = some S[sz] := by
            rw [← HBt.out, List.getElem?_eq_getElem (by exact hlS)]; rfl
          have HL2 : Shut (openM D.vis = (if S[sz] = 0 then some (⟨rs, hd, sz⟩ : Tp) else if S[sz] ≠ 1 then none else match getS D.vis (sz + 1) with
            | none => none
            | some (r, q) => if D.vis.length < q + 32 then none else if recL hd (str r) = (D.vis.drop sz).take (q + 32 - sz) then ldM D.vis g (Tp.add ⟨rs, hd, sz⟩ (str r)) else none)) := ⟨by
            have this := HL.out
            rw [ldM] at this
            simp only [hat] at this
            exact this⟩
          have HAt := Lib.hid hat
          clear hat HL
          by_cases h0 : S[sz] = 0
          · have hb0 : ((S[sz].toNat : Int) != 0) = false := by rw [h0]; rfl
            have HE : Shut (openM D.vis = some ⟨rs, hd, sz⟩) := ⟨by rw [HL2.out, if_pos h0]⟩
            clear h0 HL2 HAt
            go_wp2_with fail
            go_meet
            case rel => exact ⟨vr, _, HJ, HF, HY, HE, hsz⟩
          · have hb0 : ((S[sz].toNat : Int) != 0) = true := by
              simp only [bne_iff_ne, ne_eq]
              intro e
              apply h0
              rw [← UInt8.toNat_inj]
              simp; omega
            have CI := rString_c S (sz + 1) (by omega) (by have := HSn.out; omega) wr
            rw [show ((sz + 1 : Nat) : Int) = (sz : Int) + 1 by omega, HBt.out] at CI
            by_cases h1 : S[sz] = 1
            · have hb1 : ((S[sz].toNat : Int) != 1) = false := by rw [h1]; rfl
              have h01 : D.vis[sz]? = some 1 := by rw [HAt.out, h1]
              cases hgs : getS D.vis (sz + 1) with
              | none =>
                rw [hgs] at CI
                have HE : Shut (openM D.vis = none) := ⟨by rw [HL2.out, if_neg h0, if_neg (by simp [h1]), hgs]⟩
                simp only [strR] at CI
                have HC := Lib.hid CI
                clear CI hgs HL2 HAt h0 h1 h01
                go_wp2_with fail
                refine HC.out.mono ?_
                rintro e w9 ⟨f9, rfl⟩
                have c29 := f9.cel c2 (by simp)
                have HF9 := Lib.hid (HF.out.trans f9)
                clear f9 HC c2
                go_wp2_with fail
                go_ret2
                have hO : D.opens = (102, none, D) := by simp only [Dk.opens, HO.out, HE.out]; rfl
                rw [hO]
                exact ⟨fx, HD.out.keep HF9.out (by simp), ⟨HF9.out.mono (by simp), fun _ h => .inl h⟩, rfl⟩
              | some rq =>
                obtain ⟨r, q⟩ := rq
                rw [hgs] at CI
                simp only [strR] at CI
                obtain ⟨_, hq1, hq2, hr6⟩ := getS_canon (by rw [HVn.out]; omega) hgs
                rw [HVn.out] at hq2
                have hrs : (str r).size ≤ 65536 := by rw [str_size]; exact hr6
                have HREC := fun h => record_eq (t := ⟨rs, hd, sz⟩) h01 hgs h
                have HL3 : Shut (openM D.vis = if D.vis.length < q + 32 then none else if recL hd (str r) = (D.vis.drop sz).take (q + 32 - sz) then ldM D.vis g (Tp.add ⟨rs, hd, sz⟩ (str r)) else none) := ⟨by rw [HL2.out, if_neg h0, if_neg (by simp [h1]), hgs]⟩
                have HCh := Lib.hid fun W => chain2_c hd (str r) (by rw [HHd.out]; omega) (by omega) W
                have hchs : (chainM hd (str r)).size = 32 := chainM_size _ _
                have HX : Shut (S.extract q (q + 32) = str ((D.vis.drop q).take 32)) := ⟨by rw [extract_str, HBt.out]; congr 2; omega⟩
                have HNC : Shut (chainM hd (str r) = (Tp.add ⟨rs, hd, sz⟩ (str r)).head) := ⟨rfl⟩
                have HREC2 := Lib.hid HREC
                have HC := Lib.hid CI
                have HCs := Lib.hid hchs
                clear CI HREC hgs HL2 HAt h0 h1 h01 hr6 hchs
                generalize hN : chainM hd (str r) = N at *
                have HNe : Shut (chainM hd (str r) = N) := ⟨hN⟩
                clear hN
                go_wp2_with fail
                refine HC.out.mono ?_
                rintro e w9 ⟨f9, rfl⟩
                have HJ9 := Lib.hid (HJ.out.same f9); have HF9 := Lib.hid (HF.out.trans f9)
                clear f9 HC c2 HJ HF
                have c2 : w9.cell? ⟨rb, 2, none⟩ = some (.int .i64 sz) := cell_of_blk HJ9.out.blk 2
                go_wp2_with fail
                refine (HCh.out w9).mono ?_
                rintro e wA ⟨rfl, fA⟩
                have HJA := Lib.hid (HJ9.out.same fA); have HFA := Lib.hid (HF9.out.trans fA)
                clear fA HCh c2 HJ9 HF9
                by_cases hq32 : n < q + 32
                · have HE : Shut (openM D.vis = none) := ⟨by rw [HL3.out, if_pos (by rw [HVn.out]; exact hq32)]⟩
                  clear HL3 HREC2
                  go_wp2_with fail
                  go_ret2
                  have hO : D.opens = (102, none, D) := by simp only [Dk.opens, HO.out, HE.out]; rfl
                  rw [hO]
                  exact ⟨fx, HD.out.keep HFA.out (by simp), ⟨HFA.out.mono (by simp), fun _ h => .inl h⟩, rfl⟩
                · have hqS : q + 32 ≤ S.size := by have := HSn.out; omega
                  have htn : ((q : Int) + 32).toNat = q + 32 := by omega
                  have hiff := HREC2.out (by rw [HVn.out]; omega)
                  by_cases hrec : recL hd (str r) = (D.vis.drop sz).take (q + 32 - sz)
                  · have hne : (!(S.extract q (q + 32)).toList == N.toList) = false := by
                      have h5 := hiff.1 hrec
                      rw [HX.out, ← h5, str_bts, beq_self_eq_true]
                      rfl
                    have HE : Shut (openM D.vis = ldM D.vis g (Tp.add ⟨rs, hd, sz⟩ (str r))) := ⟨by rw [HL3.out, if_neg (by rw [HVn.out]; omega), if_pos hrec]⟩
                    have hrl2 : sz + (recL hd (str r)).length = q + 32 := by
                      rw [hrec, List.length_take, List.length_drop, HVn.out]; omega
                    have HRl := Lib.hid hrl2
                    clear hiff hrec hrl2 HL3 HREC2
                    obtain ⟨va, vc, rfl⟩ : ∃ va vc, vr = .slice va rs.length vc := (sl_of_row HJA.out.row).val
                    have c1 : wA.cell? ⟨rb, 1, none⟩ = some (.slice va rs.length vc) := cell_of_blk HJA.out.blk 1
                    go_wp2_with (first | ((with_reducible refine wpList_of_wp (o := ⟨some 91, _, _, _, _, _⟩) rfl (fun K hK => ?_)); apply stopD; case _other => exact trivial))
                    (refine stopD ?_ ?_; rotate_left; exact trivial)
                    clear c1 hne
                    have fa := Fr.alloc [] wA (.cells #[.string (str r)] 9)
                    refine wp_append_src (.tmp 88) (.tmp 90) 22 9 (.string ⟨#[]⟩) 1 16 rfl Tryz.underlying22 infoStr rfl (by decide) (.slice va rs.length vc) rs.length (rs.map Value.string) rfl (row_fr HJA.out.row fa (by simp)) (.slice (some ⟨wA.heap.size, 0, none⟩) 1 1) 1 [.string (str r)] rfl (src_one wA _ _) (by simp) (by simp [Value.oneCell']) (by omega) (by omega) ?_
                    intro ga cap2 W4 r4 f4 o4
                    have F4 : Fr [] w W4 := (HFA.out.trans fa).step f4 (fun i hi => .inr (HY.out i (by simpa using hi)))
                    have hy4 : ∀ g, (Value.slice ga (rs.length + 1) cap2).ownBlock = some g → w.heap.size ≤ g ∧ g ≠ rb := fun g hg => by
                      rcases o4 with h | h
                      · exact ⟨HY.out g (h ▸ hg), HJA.out.ne g (h ▸ hg)⟩
                      · rw [hg] at h
                        have h8 := HFA.out.size
                        have h9 := blk_lt HJA.out.blk
                        simp at h
                        exact ⟨by omega, by omega⟩
                    have hb4 := f4.keep (fa.keep HJA.out.blk (by simp)) (fun hm => HJA.out.ne rb (by simpa using hm) rfl)
                    refine hK _ _ ?_
                    clear hK K
                    have c1 := cell_of_blk hb4 1
                    have z1 := free_of_blk hb4 1
                    have c2 := cell_of_blk hb4 2
                    have z2 := free_of_blk hb4 2
                    have HR4 := Lib.hid r4; have HF4 := Lib.hid F4; have HY4 := Lib.hid hy4; have HB4 := Lib.hid hb4
                    clear r4 f4 o4 fa F4 hy4 hb4 HJA HFA
                    go_wp2_with fail
                    have hb5 := heap_setCell_same (i := 1) (.slice ga (rs.length + 1) cap2) HB4.out
                    have hb6 := heap_setCell_same (i := 2) (.int .i64 ((q : Int) + 32)) hb5
                    have fs : Fr [rb] W4 ((W4.setCell ⟨rb, 1, none⟩ (.slice ga (rs.length + 1) cap2)).setCell ⟨rb, 2, none⟩ (.int .i64 ((q : Int) + 32))) := (Fr.setCell _ _ (by simp)).trans (Fr.setCell _ _ (by simp))
                    have z5 := szOf_at (n := q + 32) (cell_of_blk hb6 2)
                    have HJ6 : Hid (RjAt ((W4.setCell ⟨rb, 1, none⟩ (.slice ga (rs.length + 1) cap2)).setCell ⟨rb, 2, none⟩ (.int .i64 ((q : Int) + 32))) rb xb (.slice ga (rs.length + 1) cap2) (Tp.add ⟨rs, hd, sz⟩ (str r)) false) := Lib.hid ⟨by
                      rw [hb6]
                      have : (Tp.add ⟨rs, hd, sz⟩ (str r)).size = q + 32 := HRl.out
                      rw [this]
                      rfl, by
                      have := row_fr HR4.out fs (fun g hg hm => (HY4.out g hg).2 (by simpa using hm))
                      simpa [Tp.add] using this, fun g hg => (HY4.out g hg).2⟩
                    have HF6 := Lib.hid (HF4.out.step fs (fun i hi => .inr (by rw [List.mem_singleton] at hi; omega)))
                    have HsA : Hid ((Tp.add ⟨rs, hd, sz⟩ (str r)).size = q + 32) := Lib.hid HRl.out
                    have HrA : Hid ((Tp.add ⟨rs, hd, sz⟩ (str r)).recs.length = rs.length + 1) := Lib.hid (by simp [Tp.add])
                    clear hb5 hb6 fs c1 c2 z1 z2
                    go_roundw
                    case rel => exact ⟨Tp.add ⟨rs, hd, sz⟩ (str r), _, g, by rw [← HNC.out], HJ6, HF6, Lib.hid (fun g hg => (HY4.out g hg).1), ⟨by rw [← HNC.out]; exact HCs.out⟩, by rw [HsA.out, HrA.out]; omega, by rw [HsA.out]; omega, by rw [HsA.out]; omega, HE⟩
                    case measure =>
                      have c20 : szOf rb wr = sz := szOf_at (cell_of_blk HJr.out.blk 2)
                      rw [z5, c20]
                      omega
                  · have hne : (!(S.extract q (q + 32)).toList == N.toList) = true := by
                      rw [strs_ne2 (fun e => hrec (hiff.2 (by
                        rw [← e, HX.out, bts_str])))]
                      rfl
                    have HE : Shut (openM D.vis = none) := ⟨by rw [HL3.out, if_neg (by rw [HVn.out]; omega), if_neg hrec]⟩
                    clear HL3 HREC2 hiff hrec
                    go_wp2_with fail
                    go_ret2
                    have hO : D.opens = (102, none, D) := by simp only [Dk.opens, HO.out, HE.out]; rfl
                    rw [hO]
                    exact ⟨fx, HD.out.keep HFA.out (by simp), ⟨HFA.out.mono (by simp), fun _ h => .inl h⟩, rfl⟩
            · have hb1 : ((S[sz].toNat : Int) != 1) = true := by
                simp only [bne_iff_ne, ne_eq]
                intro e
                apply h1
                rw [← UInt8.toNat_inj]
                simp; omega
              have HE : Shut (openM D.vis = none) := ⟨by rw [HL2.out, if_neg h0, if_pos h1]⟩
              obtain ⟨x1, x2, x3, hst⟩ : ∃ (x1 : ByteArray) (x2 x3 : Int), strR (getS D.vis (sz + 1)) = .tuple #[.string x1, .int .i64 x2, .int .i64 x3] := by
                cases getS D.vis (sz + 1) with
                | none => exact ⟨_, _, _, rfl⟩
                | some x => exact ⟨_, _, _, rfl⟩
              rw [hst] at CI
              have HC := Lib.hid CI
              clear CI hst HL2 HAt h0 h1
              go_wp2_with fail
              refine HC.out.mono ?_
              rintro e w9 ⟨f9, rfl⟩
              have c29 := f9.cel c2 (by simp)
              have HF9 := Lib.hid (HF.out.trans f9)
              clear f9 HC c2
              go_wp2_with fail
              go_ret2
              have hO : D.opens = (102, none, D) := by simp only [Dk.opens, HO.out, HE.out]; rfl
              rw [hO]
              exact ⟨fx, HD.out.keep HF9.out (by simp), ⟨HF9.out.mono (by simp), fun _ h => .inl h⟩, rfl⟩
        · have HE : Shut (openM D.vis = some ⟨rs, hd, sz⟩) := ⟨by
            rw [HL.out, ldM]
            simp only
            rw [List.getElem?_eq_none (by rw [HVn.out]; omega)]⟩
          clear HL
          go_wp2_with fail
          go_meet
          case rel => exact ⟨vr, _, HJ, HF, HY, HE, hsz⟩
    case rest =>
      clear HJ3 HF3 HY3
      obtain ⟨vr, t, HJ, HF, HY, HE, hsz⟩ := hcut
      obtain ⟨k, hk⟩ : ∃ k, k = n - t.size := ⟨_, rfl⟩
      have hkI : ((n : Int) - (t.size : Int)) = (k : Int) := by omega
      have hmk : ∀ W : World, (Instr.makeSlice 39 (.int .i64 ((n : Int) - (t.size : Int))) (.int .i64 ((n : Int) - (t.size : Int)))).run Tryz.prog W = .ok (.slice (some ⟨W.heap.size, 0, none⟩) k k) (W.alloc (.cells (madeCells #[Value.int .u8 0] k) 5)) := fun W => by
        rw [hkI]
        exact run_make_row' (P := Tryz.prog) 39 5 (.int .u8 0) 1 Tryz.underlying39 infoBy rfl .i64 .i64 k (by omega) (by omega) W
      rw [made_bytes] at hmk
      have hzl : (List.replicate k (0 : UInt8)).length = k := List.length_replicate
      have hzs : (⟨(List.replicate k (0 : UInt8)).toArray⟩ : ByteArray) = zeros k := rfl
      have hzz : (zeros k).size = k := by rw [zeros, str_size, List.length_replicate]
      have HZs := Lib.hid hzs; have HZz := Lib.hid hzz; have HKe := Lib.hid hk
      have hdisj : ∀ i, i ∈ rjB rb vr → i ∉ fx := fun i hi hm => by
        have h1 := HD.out.lt i hm
        simp only [rjB, List.mem_cons, Option.mem_toList] at hi
        rcases hi with rfl | hi
        · omega
        · have := HY.out i hi; omega
      have HDj := Lib.hid hdisj
      have hyg : ∀ i, i ∈ rjB rb vr → w.heap.size ≤ i := fun i hi => by
        simp only [rjB, List.mem_cons, Option.mem_toList] at hi
        rcases hi with rfl | hi
        · exact hrbw
        · exact HY.out i hi
      have HYg := Lib.hid hyg
      have hwr : ∃ W0, Hid (RjAt W0 rb xb vr t false) := ⟨_, HJ⟩
      have c2 := cell_of_blk HJ.out.blk 2
      clear hzs hzz hdisj hyg hwr hkI hk
      generalize hzr : List.replicate k (0 : UInt8) = zr at *
      clear hzr
      generalize hsz0 : t.size = sz at *
      have HSz0 : Shut (t.size = sz) := ⟨hsz0⟩
      clear hsz0
      go_wp2_with (first | ((with_reducible refine wpList_of_wp (o := ⟨some 106, _, _, _, _, _⟩) rfl (fun K hK => ?_)); apply stopD; case _other => exact trivial))
      (refine stopD ?_ ?_; rotate_left; exact trivial)
      refine wp_sl_str0 (.tmp 105) rfl wc.heap.size k zr rfl (heap_alloc_new wc (.cells (byteCells zr).toArray 5)) hzl ?_
      refine hK _ _ ?_
      clear hK K hmk hzl
      rw [HZs.out]
      have fz := Fr.alloc [] wc (.cells (byteCells zr).toArray 5)
      have HJ5 := Lib.hid (HJ.out.same fz); have HF5 := Lib.hid (HF.out.trans fz)
      generalize wc.alloc (.cells (byteCells zr).toArray 5) = W5 at *
      clear fz HJ HF HZs c2
      have c2 : W5.cell? ⟨rb, 2, none⟩ = some (.int .i64 sz) := by rw [← HSz0.out]; exact cell_of_blk HJ5.out.blk 2
      have HX : Shut (S.extract sz S.size = str (D.vis.drop sz)) := ⟨by
        rw [extract_str, HBt.out]
        congr 1
        exact List.take_of_length_le (by rw [List.length_drop, HVn.out]; have := HSn.out; omega)⟩
      have HZe : Shut (zeros k = str (List.replicate k 0)) := ⟨rfl⟩
      have hsS : sz ≤ S.size := by have := HSn.out; omega
      have hdl : (D.vis.drop sz).length = k := by rw [List.length_drop, HVn.out, HKe.out]
      by_cases hz : (D.vis.drop sz).all (· == 0) = true
      · have hzz := all_zero hz
        rw [hdl] at hzz
        have hne : (!(S.extract sz S.size).toList == (zeros k).toList) = false := by
          rw [HX.out, HZe.out, hzz, beq_self_eq_true]; rfl
        have hO : D.opens = (0, some t, D) := by
          have hz' := hz
          rw [← HSz0.out] at hz'
          simp only [Dk.opens, HO.out, HE.out, hz', if_true]
          rfl
        have HOp := Lib.hid hO
        clear hz hzz hdl hO
        generalize zeros k = Z at *
        go_wp2_with fail
        go_ret2
        rw [HOp.out]
        exact ⟨fx, HD.out.keep HF5.out (by simp), ⟨HF5.out.mono (by simp), fun _ h => .inl h⟩, rb, vr, rfl, HJ5.out, fun i hi => ⟨HYg.out i hi, HDj.out i hi⟩⟩
      · have hne : (!(S.extract sz S.size).toList == (zeros k).toList) = true := by
          rw [strs_ne2 (fun e => hz (by
            have e2 : D.vis.drop sz = List.replicate k 0 := by
              have := congrArg bts (HX.out.symm.trans (e.trans HZe.out))
              simpa only [bts_str] using this
            rw [e2]
            simp))]
          rfl
        have hW0 : D.writeE sz (zeros k) = 0 := by
          have hi : insB D.dur.length (sz : Int) (zeros k).size = true := by
            simp only [insB, decide_eq_true_eq, HZz.out, HDn.out]
            have := HKe.out
            omega
          simp [Dk.writeE, HO.out, hi]
        have hO : D.opens = ((D.runs [.write sz (zeros k), .sync]).1, (if (D.runs [.write sz (zeros k), .sync]).1 = 0 then some t else none), (D.runs [.write sz (zeros k), .sync]).2) := by
          have hz' := hz
          have hsz' := HSz0.out
          subst hsz'
          have hk2 : D.vis.length - t.size = k := by rw [HVn.out, HKe.out]
          simp only [Dk.opens, HO.out, HE.out, hz', hk2]
          rfl
        have hrun : D.runs [.write sz (zeros k), .sync] = ((D.writeD sz (zeros k)).syncE, (D.writeD sz (zeros k)).syncD) := by
          by_cases he : (D.writeD sz (zeros k)).syncE = 0
          · simp only [Dk.runs, Dk.doE, Dk.doD, hW0, he, if_true]
          · have he' : ¬ ((D.doD (.write sz (zeros k))).doE .sync = 0) := he
            have hw' : D.doE (.write sz (zeros k)) = 0 := hW0
            simp only [Dk.runs]
            rw [if_pos hw', if_neg he']
            rfl
        rw [hrun] at hO
        have CW := rWrite_dk xb fx D sz (zeros k) W5 (HD.out.keep HF5.out (by simp)) (by omega) (by omega) (by rw [HZz.out]; have := HKe.out; omega) (by omega)
        rw [hW0] at CW
        have HCW := Lib.hid CW
        have HOp := Lib.hid hO
        have hp2 : (D.writeD sz (zeros k)).pend.length ≤ 4000000001 := by
          have := doD_pend D (.write sz (zeros k))
          simp only [Dk.doD] at this
          omega
        clear hz hdl hO hW0 hrun CW
        generalize D.writeD sz (zeros k) = D1 at *
        generalize zeros k = Z at *
        go_wp2_with fail
        refine HCW.out.mono ?_
        rintro e W6 ⟨rfl, fx6, h6, u6⟩
        obtain ⟨j6, d6⟩ := HJ5.out.upd HDj.out u6
        have CS := Lib.hid (rSync_dk xb fx6 D1 W6 h6 (by omega))
        have HJ6 := Lib.hid j6; have HD6 := Lib.hid d6
        have HU6 : Hid (Upd fx fx6 w W6) := Lib.hid ⟨(HF5.out.mono (by simp)).trans u6.fr, fun i hi => (u6.sub i hi).imp id (fun h => Nat.le_trans HF5.out.size h)⟩
        clear h6 u6 j6 d6 HCW c2 hne
        go_wp2_with fail
        refine CS.out.mono ?_
        rintro e W7 ⟨rfl, fx7, h7, u7⟩
        obtain ⟨j7, d7⟩ := HJ6.out.upd HD6.out u7
        have HU7 : Hid (Upd fx fx7 w W7) := Lib.hid (HU6.out.trans u7)
        have H7 := Lib.hid h7; have HJ7 := Lib.hid j7; have HD7 := Lib.hid d7
        clear h7 u7 j7 d7 CS
        by_cases he : D1.syncE = 0
        · rw [he] at HOp ⊢
          clear he
          go_wp2_with fail
          go_ret2
          rw [HOp.out]
          exact ⟨fx7, H7.out, HU7.out, rb, vr, rfl, HJ7.out, fun i hi => ⟨HYg.out i hi, HD7.out i hi⟩⟩
        · have hef : (D1.syncE == 0) = false := by simpa using he
          have heb : (D1.syncE != 0) = true := by simpa using he
          have HNo : Shut ((if D1.syncE = 0 then some t else none) = none) := ⟨if_neg he⟩
          clear he
          generalize D1.syncE = E at *
          go_wp2_with fail
          go_ret2
          rw [HOp.out]
          simp only [HNo.out]
          exact ⟨fx7, H7.out, HU7.out, rfl⟩

end Go.Proofs.YtbogljpafpkikaaGreatDoor

/-
  The reference's journal: Room.
-/
namespace Go.Proofs.YtbogljpafpkikaaGreatDoor
open Go.RowKit Go.Lib

set_option maxRecDepth 100000 in
theorem rRoom_c {w : World} {rb xb : Nat} {vr : Value} {t : Tp} {br : Bool} {fx : List Nat} {D : Dk} (hj : RjAt w rb xb vr t br) (hd : RfA w xb fx D) (ht : t.size ≤ D.dur.length) :
    Calls Tryz.prog 19 #[.pointer (some ⟨rb, 0, none⟩)] w fun e w' => e = .returned (.int .i64 ((D.dur.length : Int) - t.size)) ∧ Fr [] w w' := by
  obtain ⟨sv, pv, hi, rfl⟩ := hd
  have hm := hi.ok.max
  obtain ⟨gs, cs, rfl, _, _⟩ := hi.sure.form hi.ok.pos
  have c0 : w.cell? ⟨rb, 0, none⟩ = some (.pointer (some ⟨xb, 0, none⟩)) := cell_of_blk hj.blk 0
  have c2 : w.cell? ⟨rb, 2, none⟩ = some (.int .i64 t.size) := cell_of_blk hj.blk 2
  have x0 : w.cell? ⟨xb, 0, none⟩ = some (.slice (some ⟨gs, 0, none⟩) D.dur.length cs) := cell_of_blk hi.str 0
  clear hi hj
  generalize D.dur.length = n at *
  generalize t.size = sz at *
  go_enter Tryz.func19, Tryz.ntmps19
  go_wp2_with fail
  refine reg_tree (Fr [] w) 13 (.take 0 (.take 1 (.take 2 (.take 3 (.take 4 (.take 5 (.take 6 (.take 7 (.take 8 (.take 9 (.take 10 (.take 11 (.take 12 (.one 13 .nil)))))))))))))) (by kernel_rfl) (by kernel_rfl) (by kernel_rfl) rfl ?_
  have F0 : Fr [] w w.drew := Fr.drew _ _
  generalize w.drew = WC at F0 ⊢
  iterate 12 (refine tree_take (v := ?_) rfl rfl rfl F0 (fun w hS => ?_) ?_; rotate_left; (focus (have e0 := hS.cel c0 (by simp); have e2 := hS.cel c2 (by simp); have e3 := hS.cel x0 (by simp); clear hS; go_simp; rfl)); simp only [List.setIfInBounds_toArray, List.set_cons_succ, List.set_cons_zero])
  (refine tree_take (v := ?_) rfl rfl rfl F0 (fun w hS => ?_) ?_; rotate_left; (focus (clear hS; go_simp; rw [IntWalk.i64_in ((n : Int) - (sz : Int)) (by omega)])); simp only [List.setIfInBounds_toArray, List.set_cons_succ, List.set_cons_zero])
  refine tree_last rfl rfl (fun K hK => ?_)
  go_simp
  try go_upon
  try go_simp
  refine hK _ _ ?_
  clear hK K
  refine noPanicN ?_
  go_wp2_with fail
  go_ret
  exact ⟨rfl, F0⟩

end Go.Proofs.YtbogljpafpkikaaGreatDoor

/-
  The reference's journal: Append.
-/
namespace Go.Proofs.YtbogljpafpkikaaGreatDoor
open Go.RowKit Go.Lib

/-- What the reference's Append leaves. -/
def AppR (rb xb : Nat) (fx : List Nat) (vr : Value) (w : World) (o : Int × Tp × Bool × Dk) (e : Ending) (w' : World) : Prop := e = .returned (.int .i64 o.1) ∧ ∃ vr' fx', RjAt w' rb xb vr' o.2.1 o.2.2.1 ∧ RfA w' xb fx' o.2.2.2 ∧ (∀ i, i ∈ rjB rb vr' → i ∉ fx') ∧ Upd (rjB rb vr ++ fx) (rjB rb vr' ++ fx') w w'
theorem appR_same {rb xb : Nat} {fx : List Nat} {vr : Value} {w : World} {t : Tp} {br : Bool} {D : Dk} {w' : World} (n : Int) (hj : RjAt w rb xb vr t br) (hd : RfA w xb fx D) (hx : ∀ i, i ∈ rjB rb vr → i ∉ fx) (hf : Fr [] w w') : AppR rb xb fx vr w (n, t, br, D) (.returned (.int .i64 n)) w' :=
  ⟨rfl, vr, fx, hj.same hf, hd.keep hf (by simp), hx, hf.mono (by simp), fun _ h => .inl h⟩
theorem cat_strR (a b : List UInt8) : str a ++ str b = str (a ++ b) := by
  apply ByteArray.ext; simp [str]

theorem runs_ok {D : Dk} {o : Dop} {r : List Dop} (h : D.doE o = 0) : D.runs (o :: r) = (D.doD o).runs r := by rw [Dk.runs, if_pos h]
theorem runs_no {D : Dk} {o : Dop} {r : List Dop} (h : ¬ D.doE o = 0) : D.runs (o :: r) = (D.doE o, D.doD o) := by rw [Dk.runs, if_neg h]
/-- What the writes' outcome means for the journal. -/
def apF (t : Tp) (l : List ByteArray) (r : Int × Dk) : Int × Tp × Bool × Dk := if r.1 = 0 then (0, t.adds l, false, r.2) else (r.1, t, true, r.2)
theorem apF_no {t : Tp} {l : List ByteArray} {E : Int} {D : Dk} (h : ¬ E = 0) : apF t l (E, D) = (E, t, true, D) := by simp [apF, h]
theorem rj_break {w : World} {rb xb : Nat} {vr : Value} {t : Tp} {br : Bool} (h : RjAt w rb xb vr t br) : RjAt (w.setCell ⟨rb, 3, none⟩ (.bool true)) rb xb vr t true :=
  ⟨by
    have := heap_setCell_same (i := 3) (.bool true) h.blk
    simpa using this, row_fr h.row (Fr.setCell (fp := [rb]) _ _ (by simp)) (fun g hg => by simp; exact h.ne g hg), h.ne⟩
theorem appR_err {rb xb : Nat} {fx fx' : List Nat} {vr : Value} {w W : World} {t : Tp} {br : Bool} {D : Dk} (E : Int) (hj : RjAt W rb xb vr t br) (hd : RfA W xb fx' D) (hx : ∀ i, i ∈ rjB rb vr → i ∉ fx') (hu : Upd fx fx' w W) : AppR rb xb fx vr w (E, t, true, D) (.returned (.int .i64 E)) (W.setCell ⟨rb, 3, none⟩ (.bool true)) :=
  ⟨rfl, vr, fx', rj_break hj, hd.keep (Fr.setCell (fp := [rb]) _ _ (by simp)) (fun i hi => by simp; rintro rfl; exact hx _ (by simp [rjB]) hi), hx, (hu.fr.mono (by simp +contextual)).trans (Fr.setCell (fp := rjB rb vr ++ fx) _ _ (by simp [rjB])), fun i hi => by
    rcases List.mem_append.1 hi with h | h
    · exact .inl (by simp [h])
    · exact (hu.sub i h).imp (fun h => by simp [h]) id⟩

set_option maxRecDepth 100000 in
set_option maxHeartbeats 4000000 in
theorem rAppend_c {w : World} {rb xb : Nat} {vr : Value} {t : Tp} {br : Bool} {fx : List Nat} {D : Dk} (hj : RjAt w rb xb vr t br) (hd : RfA w xb fx D) (hx : ∀ i, i ∈ rjB rb vr → i ∉ fx) (l : List ByteArray) (a : Option Addr) (cap : Nat) (hs : Sl w (.slice a l.length cap) l.length (l.map Value.string))
    (hz : ∀ r, r ∈ l → r.size ≤ 1000000) (hh : t.head = headOf head0 t.recs) (hts : t.size ≤ D.dur.length) (hll : l.length ≤ 1000) (hrs : ∀ r, r ∈ t.recs → r.size ≤ 65536) (hrl : t.recs.length ≤ 10000000) (hfar : Far w (.slice a l.length cap) fx) (hp : D.pend.length ≤ 4000000000) :
    Calls Tryz.prog 10 #[.pointer (some ⟨rb, 0, none⟩), .slice a l.length cap] w (AppR rb xb fx vr w (D.apps t br l)) := by
  have hlen := hs.len
  have HS := Lib.hid hs; have HFar := Lib.hid hfar; have HJ := Lib.hid hj; have HD := Lib.hid hd; have HX := Lib.hid hx; have HZ := Lib.hid hz
  have c3 : w.cell? ⟨rb, 3, none⟩ = some (.bool br) := cell_of_blk hj.blk 3
  obtain ⟨va, vc, hvr⟩ := (sl_of_row hj.row).val
  have c1 : w.cell? ⟨rb, 1, none⟩ = some (.slice va t.recs.length vc) := by rw [← hvr]; exact cell_of_blk hj.blk 1
  have HH := Lib.hid (head2_c va vc t.recs w (by have := sl_of_row hj.row; rw [hvr] at this; exact this) hrs)
  rw [← hh] at HH
  have HHd : Shut (t.head.size = 32) := ⟨by rw [hh]; exact headOf_size2 _ _ rfl⟩
  have HVr : Shut (vr = .slice va t.recs.length vc) := ⟨hvr⟩
  clear hs hj hd hx hz hvr hh hfar
  cases br with
  | true =>
    have hO : D.apps t true l = (100, t, true, D) := by simp [Dk.apps]
    have HO := Lib.hid hO
    clear hO
    go_enter Tryz.func10, Tryz.ntmps10
    go_wp2_with fail
    go_ret
    rw [HO.out]
    exact appR_same 100 HJ.out HD.out HX.out (Fr.refl _ _)
  | false =>
    go_enter Tryz.func10, Tryz.ntmps10
    go_wp2_with fail
    refine HH.out.mono ?_
    rintro e w1 ⟨rfl, f1⟩
    have HF1 := Lib.hid f1
    clear f1 HH c1 c3
    go_upto_block 0 with fail
    go_cut [5] (fun ov W => ov = .string (str (encAll t.head l)) ∧ Hid (Fr [] w W) ∧ Shut (l.any longB = false))
    case first =>
      go_wp2_with fail
      go_loopw [5, 6, 7] (fun ov hv iv wr => ∃ k : Nat, iv = .int .i64 k ∧ k ≤ l.length ∧ ov = .string (str (encAll t.head (l.take k))) ∧ hv = .string (headOf t.head (l.take k)) ∧ Hid (Fr [] w wr) ∧ Shut ((l.take k).any longB = false) ∧ (encAll t.head (l.take k)).length ≤ k * 70000) (fun _ _ iv _ => l.length - (RowKit.intOf iv).toNat)
      case atStart => exact ⟨0, rfl, Nat.zero_le _, rfl, rfl, HF1, ⟨by simp⟩, by simp [encAll]⟩
      case round =>
        obtain ⟨k, rfl, hk, rfl, rfl, HF, HA, hel⟩ := hrel
        by_cases hlt : k < l.length
        · obtain ⟨b, off, rfl, hc⟩ := (HS.out.same HF.out).at_ (by omega)
          have ck : wr.cell? ⟨b, off + k, none⟩ = some (.string l[k]) := hc k _ (by simp [hlt])
          have hr1 := HZ.out _ (List.getElem_mem hlt)
          have HMem : Hid (l[k] ∈ l) := Lib.hid (List.getElem_mem hlt)
          have hT : l.take (k + 1) = l.take k ++ [l[k]] := by rw [List.take_succ_eq_append_getElem hlt]
          have HT1 : Shut (encAll t.head (l.take (k + 1)) = encAll t.head (l.take k) ++ recL (headOf t.head (l.take k)) l[k]) := ⟨by rw [hT, encAll_snoc]⟩
          have HT2 : Shut (headOf t.head (l.take (k + 1)) = chainM (headOf t.head (l.take k)) l[k]) := ⟨by rw [hT, headOf_snoc]⟩
          have HT3 : Shut ((l.take (k + 1)).any longB = ((l.take k).any longB || longB l[k])) := ⟨by rw [hT, List.any_append, List.any_cons, List.any_nil, Bool.or_false]⟩
          have hhs : (headOf t.head (l.take k)).size = 32 := headOf_size2 _ _ HHd.out
          clear hc hT
          generalize l[k] = r at *
          generalize headOf t.head (l.take k) = h at *
          by_cases hlong : 65536 < r.size
          · have hO : D.apps t false l = (100, t, false, D) := by
              have : l.any longB = true := List.any_eq_true.2 ⟨r, HMem.out, by simp [longB, hlong]⟩
              simp [Dk.apps, this]
            have HO := Lib.hid hO
            clear hO hhs
            generalize str (encAll t.head (l.take k)) = O at *
            go_wp2_with fail
            go_ret
            rw [HO.out]
            exact appR_same 100 HJ.out HD.out HX.out HF.out
          · have CS := Lib.hid (stored_c h r hhs (by omega) wr)
            have hrl : (recL h r).length ≤ 66000 := by
              rw [recL_len, putS, List.length_append, bts_len]
              have := (encZ_len (2 * r.size) (by omega)).1
              omega
            have HCat : Shut (str (encAll t.head (l.take k)) ++ str (recL h r) = str (encAll t.head (l.take (k + 1)))) := ⟨by rw [HT1.out, cat_strR]⟩
            have hos : (str (encAll t.head (l.take k))).size ≤ 70000000 := by rw [str_size]; omega
            have hrz : (str (recL h r)).size ≤ 66000 := by rw [str_size]; exact hrl
            have HLn : Hid ((encAll t.head (l.take (k + 1))).length ≤ (k + 1) * 70000) := Lib.hid (by rw [HT1.out, List.length_append]; omega)
            have HA2 : Shut ((l.take (k + 1)).any longB = false) := ⟨by rw [HT3.out, HA.out]; simp [longB]; omega⟩
            clear hhs hrl hel
            generalize str (encAll t.head (l.take k)) = O at *
            generalize str (recL h r) = R at *
            go_wp2_with fail
            refine CS.out.mono ?_
            rintro e w2 ⟨rfl, f2⟩
            have HF2 := Lib.hid (HF.out.trans f2)
            clear f2 CS ck HF
            go_wp2_with fail
            go_roundw
            case rel => exact ⟨k + 1, by go_num, hlt, by rw [HCat.out], by rw [HT2.out], HF2, HA2, HLn.out⟩
            case measure => simp [RowKit.intOf]; omega
        · have hkl : l.take k = l := List.take_of_length_le (by omega)
          rw [hkl] at HA
          have HO2 : Hid (str (encAll t.head (l.take k)) = str (encAll t.head l)) := Lib.hid (by rw [hkl])
          clear hkl hel
          generalize str (encAll t.head (l.take k)) = O at *
          go_wp2_with fail
          go_meet
          case rel => exact ⟨by rw [HO2.out], HF, HA⟩
    case rest =>
      obtain ⟨rfl, HF, HA⟩ := hcut
      have HRm := Lib.hid (rRoom_c (HJ.out.same HF.out) (HD.out.keep HF.out (by simp)) hts)
      have HOs : Hid ((str (encAll t.head l)).size = (encAll t.head l).length) := Lib.hid (str_size _)
      have hen : (encAll t.head l).length ≤ 70000000 := by
        have := enc_few l (fun r hr => not_long HA.out hr) t.head
        have : l.length * 65572 ≤ 1000 * 65572 := Nat.mul_le_mul_right _ hll
        omega
      have hdm : D.dur.length ≤ 4194304 := by
        obtain ⟨_, _, hd, _⟩ := HD.out
        exact hd.ok.max
      have hap : D.apps t false l = (if (D.dur.length : Int) - t.size < (encAll t.head l).length then (101, t, false, D) else if l = [] then (0, t, false, D) else
          let r := D.runs [.write ((t.size : Int) + 1) (str ((encAll t.head l).drop 1)), .sync, .write t.size (str ((encAll t.head l).take 1)), .sync]
          if r.1 = 0 then (0, t.adds l, false, r.2) else (r.1, t, true, r.2)) := by
        simp only [Dk.apps, HA.out, Bool.or_self, Bool.false_eq_true, if_false]
      have HAp : Shut (_ = _) := ⟨hap⟩
      clear hap
      by_cases hfull : (D.dur.length : Int) - t.size < (encAll t.head l).length
      · have hO : D.apps t false l = (101, t, false, D) := by rw [HAp.out, if_pos hfull]
        have HO := Lib.hid hO
        have hfs : (D.dur.length : Int) - t.size < ((str (encAll t.head l)).size : Int) := by rw [HOs.out]; exact hfull
        clear hO hfull HAp
        generalize str (encAll t.head l) = O at *
        go_wp2_with fail
        refine HRm.out.mono ?_
        rintro e w2 ⟨rfl, f2⟩
        have HF2 := Lib.hid (HF.out.trans f2)
        clear f2 HRm HF
        go_wp2_with fail
        go_ret
        rw [HO.out]
        exact appR_same 101 HJ.out HD.out HX.out HF2.out
      · have hfs : ¬ ((D.dur.length : Int) - t.size < ((str (encAll t.head l)).size : Int)) := by rw [HOs.out]; exact hfull
        by_cases hl0 : l = []
        · have hO : D.apps t false l = (0, t, false, D) := by rw [HAp.out, if_neg hfull, if_pos hl0]
          have HO := Lib.hid hO
          have heq : ((str (encAll t.head l)).toList == []) = true := by
            rw [hl0, show str (encAll t.head []) = (⟨#[]⟩ : ByteArray) from rfl, ByteArray.toList_eq]
            rfl
          clear hO hfull HAp hl0
          generalize str (encAll t.head l) = O at *
          go_wp2_with fail
          refine HRm.out.mono ?_
          rintro e w2 ⟨rfl, f2⟩
          have HF2 := Lib.hid (HF.out.trans f2)
          clear f2 HRm HF
          go_wp2_with fail
          go_ret
          rw [HO.out]
          exact appR_same 0 HJ.out HD.out HX.out HF2.out
        · have hO : D.apps t false l = apF t l (D.runs [.write ((t.size : Int) + 1) (str ((encAll t.head l).drop 1)), .sync, .write t.size (str ((encAll t.head l).take 1)), .sync]) := by rw [HAp.out, if_neg hfull, if_neg hl0]; rfl
          have hlp : 0 < l.length := List.length_pos_iff.2 hl0
          have hep : 1 ≤ (encAll t.head l).length := by
            have := encAll_len l t.head
            omega
          have HO := Lib.hid hO
          have HX1 : Shut ((str (encAll t.head l)).extract 1 (str (encAll t.head l)).size = str ((encAll t.head l).drop 1)) := ⟨by
            rw [extract_str, bts_str, str_size]
            congr 1
            exact List.take_of_length_le (by simp)⟩
          have HX2 : Shut ((str (encAll t.head l)).extract 0 1 = str ((encAll t.head l).take 1)) := ⟨by rw [extract_str, bts_str]; rfl⟩
          have hs1 : (str ((encAll t.head l).drop 1)).size ≤ 70000000 := by rw [str_size, List.length_drop]; omega
          have hs2 : (str ((encAll t.head l).take 1)).size ≤ 70000000 := by rw [str_size, List.length_take]; omega
          have heq : ((str (encAll t.head l)).toList == []) = false := by
            have : (str (encAll t.head l)).toList ≠ [] := fun e => by
              have := congrArg List.length e
              rw [ByteArray.toList_eq] at this
              simp [str] at this
              rw [this] at hep
              simp at hep
            simpa using this
          have hOz : 1 ≤ (str (encAll t.head l)).size := by rw [HOs.out]; exact hep
          have hOz2 : (str (encAll t.head l)).size ≤ 70000000 := by rw [HOs.out]; exact hen
          have HSz : Hid ((t.adds l).size = t.size + (str (encAll t.head l)).size) := Lib.hid (by rw [adds_size, HOs.out])
          have HRc : Hid ((t.adds l).recs = t.recs ++ l) := Lib.hid (adds_recs l t)
          clear hO hfull HAp hl0 HOs hep hen
          generalize str ((encAll t.head l).drop 1) = s1 at *
          generalize str ((encAll t.head l).take 1) = s2 at *
          generalize str (encAll t.head l) = O at *
          go_wp2_with fail
          refine HRm.out.mono ?_
          rintro e WA ⟨rfl, f2⟩
          have HJA := Lib.hid (HJ.out.same (HF.out.trans f2)); have HDA := Lib.hid (HD.out.keep (HF.out.trans f2) (by simp)); have HFA := Lib.hid (HF.out.trans f2)
          clear f2 HRm HF
          go_wp2_with fail
          have HB := Lib.hid HJA.out.blk
          have hnb : rb ∉ fx := HX.out rb (by simp [rjB])
          have CW := Lib.hid (fun WC (f : Fr [] WA WC) => rWrite_dk xb fx D ((t.size : Int) + 1) s1 WC (HDA.out.keep f (by simp)) (by omega) (by omega) (by omega) (by omega))
          refine reg_tree (Fr fx WA) 12 (.take 0 (.take 1 (.take 2 (.take 3 (.take 4 (.take 5 (.take 6 (.take 7 (.take 8 (.take 9 (.take 10 (.one 11 (.one 12 .nil))))))))))))) (by kernel_rfl) (by kernel_rfl) (by kernel_rfl) rfl ?_
          have F0 : Fr [] WA WA.drew := Fr.drew _ _
          generalize WA.drew = WC at F0 ⊢
          have S0 : Fr fx WA WC := F0.mono (by simp)
          (refine tree_take (v := ?_) rfl rfl rfl S0 (fun w hS => ?_) ?_; rotate_left; (focus (have X := (hS.keep HB.out hnb); have c0 : World.cell? _ ⟨rb, 0, none⟩ = some (.pointer (some ⟨xb, 0, none⟩)) := cell_of_blk X 0; have c2 : World.cell? _ ⟨rb, 2, none⟩ = some (.int .i64 t.size) := cell_of_blk X 2; clear hS X; go_simp; rfl)); simp only [List.setIfInBounds_toArray, List.set_cons_succ, List.set_cons_zero])
          (refine tree_take (v := ?_) rfl rfl rfl S0 (fun w hS => ?_) ?_; rotate_left; (focus (have X := (hS.keep HB.out hnb); have c0 : World.cell? _ ⟨rb, 0, none⟩ = some (.pointer (some ⟨xb, 0, none⟩)) := cell_of_blk X 0; have c2 : World.cell? _ ⟨rb, 2, none⟩ = some (.int .i64 t.size) := cell_of_blk X 2; clear hS X; go_simp; rfl)); simp only [List.setIfInBounds_toArray, List.set_cons_succ, List.set_cons_zero])
          (refine tree_take (v := ?_) rfl rfl rfl S0 (fun w hS => ?_) ?_; rotate_left; (focus (have X := (hS.keep HB.out hnb); have c0 : World.cell? _ ⟨rb, 0, none⟩ = some (.pointer (some ⟨xb, 0, none⟩)) := cell_of_blk X 0; have c2 : World.cell? _ ⟨rb, 2, none⟩ = some (.int .i64 t.size) := cell_of_blk X 2; clear hS X; go_simp; rfl)); simp only [List.setIfInBounds_toArray, List.set_cons_succ, List.set_cons_zero])
          (refine tree_take (v := ?_) rfl rfl rfl S0 (fun w hS => ?_) ?_; rotate_left; (focus (have X := (hS.keep HB.out hnb); have c0 : World.cell? _ ⟨rb, 0, none⟩ = some (.pointer (some ⟨xb, 0, none⟩)) := cell_of_blk X 0; have c2 : World.cell? _ ⟨rb, 2, none⟩ = some (.int .i64 t.size) := cell_of_blk X 2; clear hS X; go_simp; rfl)); simp only [List.setIfInBounds_toArray, List.set_cons_succ, List.set_cons_zero])
          (refine tree_take (v := ?_) rfl rfl rfl S0 (fun w hS => ?_) ?_; rotate_left; (focus (have X := (hS.keep HB.out hnb); have c0 : World.cell? _ ⟨rb, 0, none⟩ = some (.pointer (some ⟨xb, 0, none⟩)) := cell_of_blk X 0; have c2 : World.cell? _ ⟨rb, 2, none⟩ = some (.int .i64 t.size) := cell_of_blk X 2; clear hS X; go_simp; rfl)); simp only [List.setIfInBounds_toArray, List.set_cons_succ, List.set_cons_zero])
          (refine tree_take (v := ?_) rfl rfl rfl S0 (fun w hS => ?_) ?_; rotate_left; (focus (have X := (hS.keep HB.out hnb); have c0 : World.cell? _ ⟨rb, 0, none⟩ = some (.pointer (some ⟨xb, 0, none⟩)) := cell_of_blk X 0; have c2 : World.cell? _ ⟨rb, 2, none⟩ = some (.int .i64 t.size) := cell_of_blk X 2; clear hS X; go_simp; rfl)); simp only [List.setIfInBounds_toArray, List.set_cons_succ, List.set_cons_zero])
          (refine tree_take (v := ?_) rfl rfl rfl S0 (fun w hS => ?_) ?_; rotate_left; (focus (have X := (hS.keep HB.out hnb); have c0 : World.cell? _ ⟨rb, 0, none⟩ = some (.pointer (some ⟨xb, 0, none⟩)) := cell_of_blk X 0; have c2 : World.cell? _ ⟨rb, 2, none⟩ = some (.int .i64 t.size) := cell_of_blk X 2; clear hS X; go_simp; rfl)); simp only [List.setIfInBounds_toArray, List.set_cons_succ, List.set_cons_zero])
          (refine tree_take (v := ?_) rfl rfl rfl S0 (fun w hS => ?_) ?_; rotate_left; (focus (have X := (hS.keep HB.out hnb); have c0 : World.cell? _ ⟨rb, 0, none⟩ = some (.pointer (some ⟨xb, 0, none⟩)) := cell_of_blk X 0; have c2 : World.cell? _ ⟨rb, 2, none⟩ = some (.int .i64 t.size) := cell_of_blk X 2; clear hS X; go_simp; rfl)); simp only [List.setIfInBounds_toArray, List.set_cons_succ, List.set_cons_zero])
          (refine tree_take (v := ?_) rfl rfl rfl S0 (fun w hS => ?_) ?_; rotate_left; (focus (have X := (hS.keep HB.out hnb); have c0 : World.cell? _ ⟨rb, 0, none⟩ = some (.pointer (some ⟨xb, 0, none⟩)) := cell_of_blk X 0; have c2 : World.cell? _ ⟨rb, 2, none⟩ = some (.int .i64 t.size) := cell_of_blk X 2; clear hS X; go_simp; rw [IntWalk.i64_in ((t.size : Int) + 1) (by omega)])); simp only [List.setIfInBounds_toArray, List.set_cons_succ, List.set_cons_zero])
          (refine tree_take (v := ?_) rfl rfl rfl S0 (fun w hS => ?_) ?_; rotate_left; (focus (have X := (hS.keep HB.out hnb); have c0 : World.cell? _ ⟨rb, 0, none⟩ = some (.pointer (some ⟨xb, 0, none⟩)) := cell_of_blk X 0; have c2 : World.cell? _ ⟨rb, 2, none⟩ = some (.int .i64 t.size) := cell_of_blk X 2; clear hS X; go_simp; rfl)); simp only [List.setIfInBounds_toArray, List.set_cons_succ, List.set_cons_zero])
          (refine tree_take (v := ?_) rfl rfl rfl S0 (fun w hS => ?_) ?_; rotate_left; (focus (have X := (hS.keep HB.out hnb); have c0 : World.cell? _ ⟨rb, 0, none⟩ = some (.pointer (some ⟨xb, 0, none⟩)) := cell_of_blk X 0; have c2 : World.cell? _ ⟨rb, 2, none⟩ = some (.int .i64 t.size) := cell_of_blk X 2; clear hS X; go_simp; rw [if_pos (by omega)])); simp only [List.setIfInBounds_toArray, List.set_cons_succ, List.set_cons_zero])
          refine tree_one rfl rfl (fun K hK => ?_)
          go_simp
          rw [HX1.out]
          refine (CW.out WC F0).mono ?_
          rintro e WB ⟨rfl, fy, hdB, huB⟩
          obtain ⟨jB, xB⟩ := (HJA.out.same F0).upd HX.out huB
          have HUB : Hid (Upd fx fy w WB) := Lib.hid ⟨((HFA.out.trans F0).mono (by simp)).trans huB.fr, fun i hi => (huB.sub i hi).imp id (fun h => Nat.le_trans (HFA.out.trans F0).size h)⟩
          refine hK _ _ (S0.trans huB.fr) ?_
          have HJB := Lib.hid jB; have HDB := Lib.hid hdB; have HXB := Lib.hid xB
          clear hK K S0 F0 hdB huB jB xB CW HX1
          try simp only [Act.put, List.setIfInBounds_toArray, List.set_cons_succ, List.set_cons_zero]
          refine tree_last rfl rfl (fun K hK => ?_)
          go_simp
          try go_upon
          try go_simp
          refine hK _ _ ?_
          clear hK K
          refine noPanicN ?_
          by_cases he : D.writeE ((t.size : Int) + 1) s1 = 0
          rotate_left
          · have hEf : (D.writeE ((t.size : Int) + 1) s1 == 0) = false := by simpa using he
            have hEb : (D.writeE ((t.size : Int) + 1) s1 != 0) = true := by simpa using he
            have HOe : Hid (D.apps t false l = (D.writeE ((t.size : Int) + 1) s1, t, true, D.writeD ((t.size : Int) + 1) s1)) := Lib.hid (HO.out.trans ((congrArg (apF t l) (runs_no (D := D) (o := (.write ((t.size : Int) + 1) s1)) he)).trans (apF_no he)))
            clear he HO
            generalize D.writeE ((t.size : Int) + 1) s1 = E at *
            have c3 : WB.cell? ⟨rb, 3, none⟩ = some (.bool false) := cell_of_blk HJB.out.blk 3
            have g3 := free_of_blk HJB.out.blk 3
            go_wp2_with fail
            go_ret
            rw [HOe.out]
            exact appR_err _ HJB.out HDB.out HXB.out HUB.out
          have HO1 : Hid (D.apps t false l = apF t l ((D.writeD ((t.size : Int) + 1) s1).runs [.sync, .write t.size s2, .sync])) := Lib.hid (HO.out.trans (congrArg (apF t l) (runs_ok (D := D) (o := (.write ((t.size : Int) + 1) s1)) he)))
          clear HO
          have HO := HO1
          clear HO1
          rw [he]
          clear he
          have hpD1 : (D.writeD ((t.size : Int) + 1) s1).pend.length ≤ 4000000001 := by
            have := doD_pend (D) ((.write ((t.size : Int) + 1) s1))
            simp only [Dk.doD] at this
            omega
          generalize D.writeD ((t.size : Int) + 1) s1 = D1 at *
          clear HJA HDA HFA
          have c0 : WB.cell? ⟨rb, 0, none⟩ = some (.pointer (some ⟨xb, 0, none⟩)) := cell_of_blk HJB.out.blk 0
          have CS := Lib.hid (rSync_dk xb fy D1 WB HDB.out (by omega))
          go_wp2_with fail
          refine CS.out.mono ?_
          rintro e WA ⟨rfl, fz, hdA, huA⟩
          obtain ⟨jA, xA⟩ := HJB.out.upd HXB.out huA
          have HUA := Lib.hid (HUB.out.trans huA)
          have HJA := Lib.hid jA; have HDA := Lib.hid hdA; have HXA := Lib.hid xA
          clear hdA huA jA xA CS HJB HDB HXB HUB c0
          by_cases he : D1.syncE = 0
          rotate_left
          · have hEf : (D1.syncE == 0) = false := by simpa using he
            have hEb : (D1.syncE != 0) = true := by simpa using he
            have HOe : Hid (D.apps t false l = (D1.syncE, t, true, D1.syncD)) := Lib.hid (HO.out.trans ((congrArg (apF t l) (runs_no (D := D1) (o := .sync) he)).trans (apF_no he)))
            clear he HO
            generalize D1.syncE = E at *
            have c3 : WA.cell? ⟨rb, 3, none⟩ = some (.bool false) := cell_of_blk HJA.out.blk 3
            have g3 := free_of_blk HJA.out.blk 3
            go_wp2_with fail
            go_ret
            rw [HOe.out]
            exact appR_err _ HJA.out HDA.out HXA.out HUA.out
          have HO1 : Hid (D.apps t false l = apF t l ((D1.syncD).runs [.write t.size s2, .sync])) := Lib.hid (HO.out.trans (congrArg (apF t l) (runs_ok (D := D1) (o := .sync) he)))
          clear HO
          have HO := HO1
          clear HO1
          rw [he]
          clear he
          have hpD2 : (D1.syncD).pend.length ≤ 4000000002 := by
            have := doD_pend (D1) (.sync)
            simp only [Dk.doD] at this
            omega
          generalize D1.syncD = D2 at *
          go_wp2_with fail
          have HB := Lib.hid HJA.out.blk
          have hnb : rb ∉ fz := HXA.out rb (by simp [rjB])
          have CW := Lib.hid (fun WC (f : Fr [] WA WC) => rWrite_dk xb fz D2 t.size s2 WC (HDA.out.keep f (by simp)) (by omega) (by omega) (by omega) (by omega))
          refine reg_tree (Fr fz WA) 11 (.take 0 (.take 1 (.take 2 (.take 3 (.take 4 (.take 5 (.take 6 (.take 7 (.take 8 (.take 9 (.one 10 (.one 11 .nil)))))))))))) (by kernel_rfl) (by kernel_rfl) (by kernel_rfl) rfl ?_
          have F0 : Fr [] WA WA.drew := Fr.drew _ _
          generalize WA.drew = WC at F0 ⊢
          have S0 : Fr fz WA WC := F0.mono (by simp)
          (refine tree_take (v := ?_) rfl rfl rfl S0 (fun w hS => ?_) ?_; rotate_left; (focus (have X := (hS.keep HB.out hnb); have c0 : World.cell? _ ⟨rb, 0, none⟩ = some (.pointer (some ⟨xb, 0, none⟩)) := cell_of_blk X 0; have c2 : World.cell? _ ⟨rb, 2, none⟩ = some (.int .i64 t.size) := cell_of_blk X 2; clear hS X; go_simp; rfl)); simp only [List.setIfInBounds_toArray, List.set_cons_succ, List.set_cons_zero])
          (refine tree_take (v := ?_) rfl rfl rfl S0 (fun w hS => ?_) ?_; rotate_left; (focus (have X := (hS.keep HB.out hnb); have c0 : World.cell? _ ⟨rb, 0, none⟩ = some (.pointer (some ⟨xb, 0, none⟩)) := cell_of_blk X 0; have c2 : World.cell? _ ⟨rb, 2, none⟩ = some (.int .i64 t.size) := cell_of_blk X 2; clear hS X; go_simp; rfl)); simp only [List.setIfInBounds_toArray, List.set_cons_succ, List.set_cons_zero])
          (refine tree_take (v := ?_) rfl rfl rfl S0 (fun w hS => ?_) ?_; rotate_left; (focus (have X := (hS.keep HB.out hnb); have c0 : World.cell? _ ⟨rb, 0, none⟩ = some (.pointer (some ⟨xb, 0, none⟩)) := cell_of_blk X 0; have c2 : World.cell? _ ⟨rb, 2, none⟩ = some (.int .i64 t.size) := cell_of_blk X 2; clear hS X; go_simp; rfl)); simp only [List.setIfInBounds_toArray, List.set_cons_succ, List.set_cons_zero])
          (refine tree_take (v := ?_) rfl rfl rfl S0 (fun w hS => ?_) ?_; rotate_left; (focus (have X := (hS.keep HB.out hnb); have c0 : World.cell? _ ⟨rb, 0, none⟩ = some (.pointer (some ⟨xb, 0, none⟩)) := cell_of_blk X 0; have c2 : World.cell? _ ⟨rb, 2, none⟩ = some (.int .i64 t.size) := cell_of_blk X 2; clear hS X; go_simp; rfl)); simp only [List.setIfInBounds_toArray, List.set_cons_succ, List.set_cons_zero])
          (refine tree_take (v := ?_) rfl rfl rfl S0 (fun w hS => ?_) ?_; rotate_left; (focus (have X := (hS.keep HB.out hnb); have c0 : World.cell? _ ⟨rb, 0, none⟩ = some (.pointer (some ⟨xb, 0, none⟩)) := cell_of_blk X 0; have c2 : World.cell? _ ⟨rb, 2, none⟩ = some (.int .i64 t.size) := cell_of_blk X 2; clear hS X; go_simp; rfl)); simp only [List.setIfInBounds_toArray, List.set_cons_succ, List.set_cons_zero])
          (refine tree_take (v := ?_) rfl rfl rfl S0 (fun w hS => ?_) ?_; rotate_left; (focus (have X := (hS.keep HB.out hnb); have c0 : World.cell? _ ⟨rb, 0, none⟩ = some (.pointer (some ⟨xb, 0, none⟩)) := cell_of_blk X 0; have c2 : World.cell? _ ⟨rb, 2, none⟩ = some (.int .i64 t.size) := cell_of_blk X 2; clear hS X; go_simp; rfl)); simp only [List.setIfInBounds_toArray, List.set_cons_succ, List.set_cons_zero])
          (refine tree_take (v := ?_) rfl rfl rfl S0 (fun w hS => ?_) ?_; rotate_left; (focus (have X := (hS.keep HB.out hnb); have c0 : World.cell? _ ⟨rb, 0, none⟩ = some (.pointer (some ⟨xb, 0, none⟩)) := cell_of_blk X 0; have c2 : World.cell? _ ⟨rb, 2, none⟩ = some (.int .i64 t.size) := cell_of_blk X 2; clear hS X; go_simp; rfl)); simp only [List.setIfInBounds_toArray, List.set_cons_succ, List.set_cons_zero])
          (refine tree_take (v := ?_) rfl rfl rfl S0 (fun w hS => ?_) ?_; rotate_left; (focus (have X := (hS.keep HB.out hnb); have c0 : World.cell? _ ⟨rb, 0, none⟩ = some (.pointer (some ⟨xb, 0, none⟩)) := cell_of_blk X 0; have c2 : World.cell? _ ⟨rb, 2, none⟩ = some (.int .i64 t.size) := cell_of_blk X 2; clear hS X; go_simp; rfl)); simp only [List.setIfInBounds_toArray, List.set_cons_succ, List.set_cons_zero])
          (refine tree_take (v := ?_) rfl rfl rfl S0 (fun w hS => ?_) ?_; rotate_left; (focus (have X := (hS.keep HB.out hnb); have c0 : World.cell? _ ⟨rb, 0, none⟩ = some (.pointer (some ⟨xb, 0, none⟩)) := cell_of_blk X 0; have c2 : World.cell? _ ⟨rb, 2, none⟩ = some (.int .i64 t.size) := cell_of_blk X 2; clear hS X; go_simp; rfl)); simp only [List.setIfInBounds_toArray, List.set_cons_succ, List.set_cons_zero])
          (refine tree_take (v := ?_) rfl rfl rfl S0 (fun w hS => ?_) ?_; rotate_left; (focus (have X := (hS.keep HB.out hnb); have c0 : World.cell? _ ⟨rb, 0, none⟩ = some (.pointer (some ⟨xb, 0, none⟩)) := cell_of_blk X 0; have c2 : World.cell? _ ⟨rb, 2, none⟩ = some (.int .i64 t.size) := cell_of_blk X 2; clear hS X; go_simp; rw [if_pos (by omega)])); simp only [List.setIfInBounds_toArray, List.set_cons_succ, List.set_cons_zero])
          refine tree_one rfl rfl (fun K hK => ?_)
          go_simp
          rw [HX2.out]
          refine (CW.out WC F0).mono ?_
          rintro e WB ⟨rfl, fy, hdB, huB⟩
          obtain ⟨jB, xB⟩ := (HJA.out.same F0).upd HXA.out huB
          have HUB : Hid (Upd fx fy w WB) := Lib.hid ⟨HUA.out.fr.step ((F0.mono (by simp)).trans huB.fr) HUA.out.sub, fun i hi => by
            rcases huB.sub i hi with h | h
            · exact HUA.out.sub i h
            · exact .inr (Nat.le_trans (Nat.le_trans HUA.out.fr.size F0.size) h)⟩
          refine hK _ _ (S0.trans huB.fr) ?_
          have HJB := Lib.hid jB; have HDB := Lib.hid hdB; have HXB := Lib.hid xB
          clear hK K S0 F0 hdB huB jB xB CW HX2 HB hnb
          try simp only [Act.put, List.setIfInBounds_toArray, List.set_cons_succ, List.set_cons_zero]
          refine tree_last rfl rfl (fun K hK => ?_)
          go_simp
          try go_upon
          try go_simp
          refine hK _ _ ?_
          clear hK K HJA HDA HXA HUA
          refine noPanicN ?_
          by_cases he : D2.writeE t.size s2 = 0
          rotate_left
          · have hEf : (D2.writeE t.size s2 == 0) = false := by simpa using he
            have hEb : (D2.writeE t.size s2 != 0) = true := by simpa using he
            have HOe : Hid (D.apps t false l = (D2.writeE t.size s2, t, true, D2.writeD t.size s2)) := Lib.hid (HO.out.trans ((congrArg (apF t l) (runs_no (D := D2) (o := (.write t.size s2)) he)).trans (apF_no he)))
            clear he HO
            generalize D2.writeE t.size s2 = E at *
            have c3 : WB.cell? ⟨rb, 3, none⟩ = some (.bool false) := cell_of_blk HJB.out.blk 3
            have g3 := free_of_blk HJB.out.blk 3
            go_wp2_with fail
            go_ret
            rw [HOe.out]
            exact appR_err _ HJB.out HDB.out HXB.out HUB.out
          have HO1 : Hid (D.apps t false l = apF t l ((D2.writeD t.size s2).runs [.sync])) := Lib.hid (HO.out.trans (congrArg (apF t l) (runs_ok (D := D2) (o := (.write t.size s2)) he)))
          clear HO
          have HO := HO1
          clear HO1
          rw [he]
          clear he
          have hpD3 : (D2.writeD t.size s2).pend.length ≤ 4000000003 := by
            have := doD_pend (D2) ((.write t.size s2))
            simp only [Dk.doD] at this
            omega
          generalize D2.writeD t.size s2 = D3 at *
          have c0 : WB.cell? ⟨rb, 0, none⟩ = some (.pointer (some ⟨xb, 0, none⟩)) := cell_of_blk HJB.out.blk 0
          have CS := Lib.hid (rSync_dk xb fy D3 WB HDB.out (by omega))
          go_wp2_with fail
          refine CS.out.mono ?_
          rintro e WA ⟨rfl, fz, hdA, huA⟩
          obtain ⟨jA, xA⟩ := HJB.out.upd HXB.out huA
          have HUA := Lib.hid (HUB.out.trans huA)
          have HJA := Lib.hid jA; have HDA := Lib.hid hdA; have HXA := Lib.hid xA
          clear hdA huA jA xA CS HJB HDB HXB HUB c0
          by_cases he : D3.syncE = 0
          rotate_left
          · have hEf : (D3.syncE == 0) = false := by simpa using he
            have hEb : (D3.syncE != 0) = true := by simpa using he
            have HOe : Hid (D.apps t false l = (D3.syncE, t, true, D3.syncD)) := Lib.hid (HO.out.trans ((congrArg (apF t l) (runs_no (D := D3) (o := .sync) he)).trans (apF_no he)))
            clear he HO
            generalize D3.syncE = E at *
            have c3 : WA.cell? ⟨rb, 3, none⟩ = some (.bool false) := cell_of_blk HJA.out.blk 3
            have g3 := free_of_blk HJA.out.blk 3
            go_wp2_with fail
            go_ret
            rw [HOe.out]
            exact appR_err _ HJA.out HDA.out HXA.out HUA.out
          have HO1 : Hid (D.apps t false l = apF t l ((D3.syncD).runs [])) := Lib.hid (HO.out.trans (congrArg (apF t l) (runs_ok (D := D3) (o := .sync) he)))
          clear HO
          have HO := HO1
          clear HO1
          rw [he]
          clear he
          have hpD4 : (D3.syncD).pend.length ≤ 4000000004 := by
            have := doD_pend (D3) (.sync)
            simp only [Dk.doD] at this
            omega
          generalize D3.syncD = D4 at *
          have HO1 : Hid (D.apps t false l = (0, t.adds l, false, D4)) := Lib.hid (HO.out.trans rfl)
          clear HO
          have c1 : WA.cell? ⟨rb, 1, none⟩ = some (.slice va t.recs.length vc) := by rw [← HVr.out]; exact cell_of_blk HJA.out.blk 1
          have SA : Sl WA (.slice a l.length cap) l.length (l.map Value.string) := HS.out.fr HUA.out.fr (fun g hg => (HFar.out g hg).1)
          have HNo : Hid ((Value.slice a l.length cap).ownBlock = none → Value.slice a l.length cap = .slice none 0 0) := Lib.hid (fun h => by
            obtain ⟨b, off, rfl, _⟩ := SA.at_ hlp
            cases h)
          have HSA := Lib.hid SA
          have HRA : Hid (SrcAt WA (.slice va t.recs.length vc) t.recs.length (t.recs.map Value.string)) := Lib.hid (by
            have := srcAt_of_row HJA.out.row
            rw [HVr.out] at this
            exact this)
          clear SA
          go_wp2_with (first | ((with_reducible refine wpList_of_wp (o := ⟨some 103, _, _, _, _, _⟩) rfl (fun K hK => ?_)); go_must (refine wp_append_src (.tmp 98) (.tmp 102) 22 9 (.string ⟨#[]⟩) 1 16 rfl Tryz.underlying22 infoStr rfl (by decide) (.slice none 0 0) 0 [] rfl (World.ownsRow_nil _ _ _ _) (.slice va t.recs.length vc) t.recs.length (t.recs.map Value.string) rfl HRA.out (by simp) (by simp [Value.oneCell']) (by omega) (by omega) ?_; intro ga1 cap1 W8 r8 f8 o8; simp only [Nat.zero_add, List.nil_append] at r8 o8 ⊢; have HSA8 : Hid (SrcAt W8 (.slice a l.length cap) l.length (l.map Value.string)) := Lib.hid (srcAt_of_sl (HSA.out.same f8) HNo.out (fun h => by omega)); have R8 := Lib.hid r8; have F8 : Hid (Fr [] WA W8) := Lib.hid f8; have Y8 : Hid (∀ g, (Value.slice ga1 t.recs.length cap1).ownBlock = some g → WA.heap.size ≤ g) := Lib.hid (fun g hg => by rcases o8 with h | h <;> (rw [hg] at h; simp [Value.ownBlock] at h; try omega)); refine hK _ _ ?_; clear hK r8 f8 o8)) | ((with_reducible refine wpList_of_wp (o := ⟨some 107, _, _, _, _, _⟩) rfl (fun K hK => ?_)); go_must (refine wp_append_src (.tmp 105) (.tmp 106) 22 9 (.string ⟨#[]⟩) 1 16 rfl Tryz.underlying22 infoStr rfl (by decide) (.slice ga1 t.recs.length cap1) t.recs.length (t.recs.map Value.string) rfl R8.out (.slice a l.length cap) l.length (l.map Value.string) rfl (HSA8.out) (by simp) (by simp [Value.oneCell']) (by omega) (by omega) ?_; intro ga2 cap2 W9 r9 f9 o9; have F9 : Hid (Fr [] WA W9) := Lib.hid (F8.out.step f9 (fun i hi => .inr (Y8.out i (by simpa using hi)))); have Y9 : Hid (∀ g, (Value.slice ga2 (t.recs.length + l.length) cap2).ownBlock = some g → WA.heap.size ≤ g) := Lib.hid (fun g hg => by rcases o9 with h | h; exact Y8.out g (h ▸ hg); rw [hg] at h; have := F8.out.size; simp at h; omega); have R9 := Lib.hid r9; have B9 := Lib.hid (F9.out.keep HJA.out.blk (by simp)); have c1 := cell_of_blk B9.out 1; have g1 := free_of_blk B9.out 1; have c2 := cell_of_blk B9.out 2; have g2 := free_of_blk B9.out 2; refine hK _ _ ?_; clear hK r9 f9 o9)))
          go_ret
          rw [HO1.out]
          have hl2 : t.recs.length + l.length = (t.adds l).recs.length := by rw [HRc.out, List.length_append]
          have hm2 : t.recs.map Value.string ++ l.map Value.string = (t.adds l).recs.map Value.string := by rw [HRc.out, List.map_append]
          rw [hl2] at R9 Y9 ⊢
          rw [hm2] at R9
          have b7 := heap_setCell_same (i := 1) (.slice ga2 (t.adds l).recs.length cap2) B9.out
          have b8 := heap_setCell_same (i := 2) (.int .i64 ((t.size : Int) + O.size)) b7
          have f9 : Fr [rb] W9 ((W9.setCell ⟨rb, 1, none⟩ (.slice ga2 (t.adds l).recs.length cap2)).setCell ⟨rb, 2, none⟩ (.int .i64 ((t.size : Int) + O.size))) := (Fr.setCell _ _ (by simp)).trans (Fr.setCell _ _ (by simp))
          have hrl := HJA.out.lt rb (by simp [rjB])
          have hyo : ∀ g, (Value.slice ga2 (t.adds l).recs.length cap2).ownBlock = some g → WA.heap.size ≤ g := Y9.out
          have hfx : ∀ i, i ∈ fz → i < WA.heap.size := HDA.out.lt
          refine ⟨rfl, .slice ga2 (t.adds l).recs.length cap2, fz, ⟨?_, row_fr R9.out f9 (fun g hg => by have := hyo g hg; simp; omega), fun g hg => by have := hyo g hg; omega⟩, (HDA.out.keep F9.out (by simp)).keep f9 (fun i hi => by simp; rintro rfl; exact HXA.out _ (by simp [rjB]) hi), fun i hi hm => ?_, ((HUA.out.fr.mono (by simp +contextual)).trans (F9.out.mono (by simp))).trans (f9.mono (by simp [rjB])), fun i hi => ?_⟩
          · simpa [HSz.out] using b8
          · simp only [rjB, List.mem_cons, Option.mem_toList] at hi
            rcases hi with rfl | hi
            · exact HXA.out _ (by simp [rjB]) hm
            · have := hyo i hi; have := hfx i hm; omega
          · rcases List.mem_append.1 hi with h | h
            · simp only [rjB, List.mem_cons, Option.mem_toList] at h
              rcases h with rfl | h
              · exact .inl (by simp [rjB])
              · exact .inr (Nat.le_trans HUA.out.fr.size (hyo i h))
            · exact (HUA.out.sub i h).imp (fun h => by simp [h]) id

end Go.Proofs.YtbogljpafpkikaaGreatDoor
