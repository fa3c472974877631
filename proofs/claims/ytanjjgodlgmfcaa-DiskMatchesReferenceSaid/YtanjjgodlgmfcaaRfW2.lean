/-
  The reference's disk: Visible, Read, Sync, Crash.
-/
import Derived.Test.YtanjjgodlgmfcaaRfW
import Derived.Test.YtanjjgodlgmfcaaL9g
namespace Go.Proofs.Ytanjjgodlgmfcaa
open Go.RowKit Go.Lib

set_option maxRecDepth 100000 in
set_option maxHeartbeats 2000000 in
theorem rVisible_c (b : Nat) (sv pv : Value) (D : Dk) (w : World) (h : RfIn w b sv pv D) (hp : D.pend.length ≤ 4294967296) :
    Calls Try.prog 34 #[.pointer (some ⟨b, 0, none⟩)] w fun e w' => ∃ g cap, e = .returned (.slice (some ⟨g, 0, none⟩) D.dur.length cap) ∧ w'.ownsRow 0 5 1 (.slice (some ⟨g, 0, none⟩) D.dur.length cap) D.dur.length (byteCells D.vis) ∧ Fr [] w w' ∧ w.heap.size ≤ g := by
  obtain ⟨gs, cs, rfl, _, _⟩ := h.sure.form h.ok.pos
  have c0 : w.cell? ⟨b, 0, none⟩ = some (.slice (some ⟨gs, 0, none⟩) D.dur.length cs) := cell_of_blk h.str 0
  have hbl := blk_lt h.str
  have hm := h.ok.max
  have H := Lib.hid h; clear h
  have Hsrc := Lib.hid (srcAt_of_row (ownsRow_keep (w' := w.alloc (.cells #[] 5)) H.out.sure fun g hg => Below.heap_alloc _ _ _ (ownsRow_lt H.out.sure hg)))
  have Hone : Hid (∀ u, u ∈ byteCells D.dur → u.oneCell' = true) := Lib.hid fun u hu => by
    obtain ⟨x, _, rfl⟩ := List.mem_map.1 hu
    rfl
  have Hlen : Hid ((byteCells D.dur).length = D.dur.length * 1) := Lib.hid (by simp [byteCells_length])
  have hpos := H.out.ok.pos
  have Hlp : Hid (∀ k, k ≤ D.pend.length → ((D.pend.take k).foldl apply1 D.dur).length = D.dur.length) := Lib.hid fun k hk => by
    have hpe := H.out.ok.pend
    induction k with
    | zero => rfl
    | succ k ih =>
      rw [List.take_succ_eq_append_getElem (by omega), List.foldl_append]
      simp only [List.foldl_cons, List.foldl_nil, apply1]
      rw [paste_length, ih (by omega)]
      rw [ih (by omega)]
      have := hpe _ (List.getElem_mem (show k < D.pend.length by omega))
      simpa using this
  go_enter Try.func34, Try.ntmps34
  go_wp2_with (first | ((with_reducible refine wpList_of_wp (o := ⟨some 10, _, _, _, _, _⟩) rfl (fun K hK => ?_)); refine wp_append_src (.tmp 5) (.tmp 9) 40 5 (.int .u8 0) 1 1 rfl Try.underlying40 infoB rfl (by decide) (.slice (some ⟨w.heap.size, 0, none⟩) 0 0) 0 [] rfl (World.ownsRow_lit w #[] 0 (Nat.zero_le _) (by decide) rfl) _ D.dur.length _ rfl Hsrc.out Hlen.out Hone.out (by omega) (by omega) (fun ga cap2 w9 x1 x2 x3 => ?_); obtain ⟨g, cap3, hv, _, hlt⟩ := x1.form (by omega); cases hv; simp only [Nat.zero_add, List.nil_append] at x1 x3 ⊢; have X1 := Lib.hid x1; have X2 := Lib.hid x2; have X3 := Lib.hid x3; clear x1 x2 x3; refine hK _ _ ?_; clear hK K))
  go_loopw [4] (fun i wr => ∃ k : Nat, k ≤ D.pend.length ∧ i = .int .i64 k ∧ Hid (Fr [] w wr) ∧ Hid (wr.ownsRow 0 5 1 (.slice (some ⟨g, 0, none⟩) D.dur.length cap2) D.dur.length (byteCells ((D.pend.take k).foldl apply1 D.dur)))) (fun i _ => D.pend.length - (intOf i).toNat)
  case atStart => exact ⟨0, Nat.zero_le _, rfl, Lib.hid ((Fr.alloc _ _ _).step X2.out (fun i hi => by simp [Value.ownBlock] at hi; exact .inr (by omega))), X1⟩
  case round =>
    obtain ⟨k, hk, rfl, HF, HB⟩ := hrel
    have hgw : w.heap.size ≤ g := by
      rcases X3.out with h | h <;> simp [Value.ownBlock] at h <;> omega
    have HI := Lib.hid (H.out.keep (w' := wr) (fun q hq => HF.out.block q (H.out.fp_lt q hq) (by simp)))
    obtain ⟨pa, pc, rfl⟩ := ownsRow_slice H.out.pend
    have c1 : wr.cell? ⟨b, 1, none⟩ = some (.slice pa D.pend.length pc) := cell_of_blk HI.out.str 1
    by_cases hlt : k < D.pend.length
    · obtain ⟨gp, cp, hv, _, _⟩ := HI.out.pend.form (by omega)
      cases hv
      obtain ⟨g', c', hv, p1, p2⟩ := pend_cells HI.out.pend k hlt
      cases hv
      have hpk := H.out.ok.pend _ (List.getElem_mem hlt)
      have HT : Hid (D.pend.take (k + 1) = D.pend.take k ++ [D.pend[k]]) := Lib.hid (List.take_succ_eq_append_getElem hlt)
      have hne1 : b ≠ g := by omega
      have hne2 : gp ≠ g := by have := ownsRow_lt H.out.pend (g := gp) rfl; omega
      generalize D.pend[k] = q at *
      obtain ⟨o, s⟩ := q
      simp only at p1 p2 hpk
      have Hpk := Lib.hid hpk
      have hlen := Hlp.out k (by omega)
      have CA : Hid (Calls Try.prog 44 #[.slice (some ⟨g, 0, none⟩) D.dur.length cap2, .int .i64 o, .string s] wr.drew fun e w' => e = .returned (.tuple #[]) ∧ Fr [g] wr w' ∧ w'.ownsRow 0 5 1 (.slice (some ⟨g, 0, none⟩) D.dur.length cap2) D.dur.length (byteCells ((D.pend.take (k + 1)).foldl apply1 D.dur)) ∧ (w'.cell? ⟨b, 1, none⟩ = some (.slice (some ⟨gp, 0, none⟩) D.pend.length pc) ∧ w'.cell? ⟨gp, k * 2, none⟩ = some (.int .i64 o) ∧ w'.cell? ⟨gp, k * 2 + 1, none⟩ = some (.string s))) := Lib.hid
        ((rapply_c g D.dur.length cap2 o s _ wr.drew HB.out hpk hm).mono fun e w' ⟨h1, h2, h3⟩ => ⟨h1, (Fr.drew _ _).trans h2, by
          rw [HT.out, List.foldl_append]
          exact h3, (World.cell?_of_block (h2.block b (blk_lt HI.out.str) (by simpa using hne1))).trans c1, (World.cell?_of_block (h2.block gp (World.block_lt_of_cell? wr _ p1) (by simpa using hne2))).trans p1, (World.cell?_of_block (h2.block gp (World.block_lt_of_cell? wr _ p1) (by simpa using hne2))).trans p2⟩)
      clear hpk hlen
      go_wp2_with fail
      go_region_held3 (fun W' : World => W'.cell? ⟨b, 1, none⟩ = some (.slice (some ⟨gp, 0, none⟩) D.pend.length pc) ∧ W'.cell? ⟨gp, k * 2, none⟩ = some (.int .i64 o) ∧ W'.cell? ⟨gp, k * 2 + 1, none⟩ = some (.string s)) (first | exact ⟨c1, p1, p2⟩ | assumption) (first | (go_at_call 44; refine CA.out.mono ?_; rintro e w5 ⟨rfl, f5, b5, s5⟩))
      have f0 := HF.out.step f5 (fun i hi => by simp at hi; exact .inr (by omega))
      clear s5
      go_wp2
      go_roundw
      case rel => exact ⟨k + 1, by omega, by go_num, Lib.hid f0, Lib.hid b5⟩
      case measure => simp [intOf]; omega
    · obtain rfl : k = D.pend.length := by omega
      go_wp2
      go_ret
      refine ⟨g, cap2, rfl, ?_, HF.out, hgw⟩
      have := HB.out
      rw [List.take_length, ← H.out.coh] at this
      exact this

/-- string(b) of a part of a row of bytes. -/
theorem wp_bytes_row {P : Program} {w : World} {o : Oper} {a : Act} {K : Act → World → Prop} {Q : Exit → Act → World → Prop} (x : Operand) (src dst e : TypeId) (ho : o.op = .convert src dst x)
    (hs : P.underlying src = some (.slice e)) (he : P.underlying e = some (.int .u8)) (hd : P.underlying dst = some .string)
    (g off n cap m c : Nat) (l : List UInt8) (e' : TypeId) (hx : a.eval x = .slice (some ⟨g, off, none⟩) n cap) (hb : w.ownsRow 0 e' 1 (.slice (some ⟨g, 0, none⟩) m c) m (byteCells l)) (hfit : off + n ≤ m)
    (h : K (a.put o.dst (.string ⟨((l.drop off).take n).toArray⟩)) w) : o.wp P a w K Q := by
  have hlm : l.length = m := by have := hb.1; simpa [byteCells_length] using this
  have hlen : ((l.drop off).take n).length = n := by simp; omega
  have hrun := run_convert_bytes_back (P := P) w src dst e ⟨g, off, none⟩ cap ((l.drop off).take n) hs he hd (fun j hj => by
    have hj' : j < n := by rw [hlen] at hj; exact hj
    have ha : (⟨g, off, none⟩ : Addr).add j = ⟨g, off + j, none⟩ := by
      unfold Addr.add; split
      · rename_i h0; simp only [h0, Nat.add_zero]
      · rfl
    rw [ha, (row_cell1 hb (by omega)).1]
    have h2 : off + j < l.length := by omega
    simp [byteCells, List.getElem?_map, List.getElem?_eq_getElem h2])
  rw [hlen] at hrun
  unfold Oper.wp execOp
  simp only [ho, Sem.run_bind, Sem.run_pure, Result.andThen_ok, hx, hrun]
  exact h

set_option maxRecDepth 100000 in
set_option maxHeartbeats 2000000 in
theorem rRead_dk (b : Nat) (fp : List Nat) (D : Dk) (off n : Int) (w : World) (h : RfA w b fp D) (ho1 : -9223372036854775808 ≤ off) (ho2 : off ≤ 9223372036854775807) (hn1 : -9223372036854775808 ≤ n) (hn2 : n ≤ 9223372036854775807) (hp : D.pend.length ≤ 4294967296) :
    Calls Try.prog 20 #[.pointer (some ⟨b, 0, none⟩), .int .i64 off, .int .i64 n] w fun e w' => e = .returned (.tuple #[.string ⟨(D.readS off n).toArray⟩, .int .i64 (D.readE off n)]) ∧ Fr [] w w' := by
  obtain ⟨sv, pv, h, rfl⟩ := h
  have CV := Lib.hid (rVisible_c b sv pv D w h hp)
  obtain ⟨gs, cs, rfl, _, _⟩ := h.sure.form h.ok.pos
  have c0 : w.cell? ⟨b, 0, none⟩ = some (.slice (some ⟨gs, 0, none⟩) D.dur.length cs) := cell_of_blk h.str 0
  have c2 : w.cell? ⟨b, 2, none⟩ = some (.bool D.off) := cell_of_blk h.str 2
  have hm := h.ok.max
  clear h
  by_cases ho : D.off = true
  · rw [ho] at c2
    rw [show D.readS off n = [] by simp [Dk.readS, ho], show D.readE off n = 91 by simp [Dk.readE, ho]]
    go_enter Try.func20, Try.ntmps20
    go_wp2
    go_ret2
    exact ⟨rfl, Fr.refl _ _⟩
  · have ho : D.off = false := by simpa using ho
    rw [ho] at c2
    by_cases hi : insB D.dur.length off n = true
    · rw [show D.readS off n = (D.vis.drop off.toNat).take n.toNat by simp [Dk.readS, ho, hi], show D.readE off n = 0 by simp [Dk.readE, ho, hi]]
      have hi2 : 0 ≤ off ∧ 0 ≤ n ∧ off + n ≤ D.dur.length := by simp [insB] at hi; omega
      obtain ⟨o, rfl⟩ := Int.eq_ofNat_of_zero_le hi2.1
      obtain ⟨k, rfl⟩ := Int.eq_ofNat_of_zero_le hi2.2.1
      have hs : o + k ≤ D.dur.length := by omega
      clear hi hi2
      go_enter Try.func20, Try.ntmps20
      go_wp2_with fail
      refine CV.out.mono ?_
      rintro e w1 ⟨g, cap, rfl, x1, f1, hg⟩
      have X1 := Lib.hid x1
      have hcap : D.dur.length ≤ cap := by
        rcases x1.2 with ⟨h, _⟩ | ⟨_, _, _, h, _, _, h2, _⟩
        · cases h
        · cases h; exact h2
      have hcap2 : cap ≤ 9223372036854775807 := by
        rcases x1.2 with ⟨h, _⟩ | ⟨_, _, _, h, _, _, _, h2, _⟩
        · cases h
        · cases h; exact h2
      clear x1
      by_cases he : cap = o
      · subst he
        have hk0 : k = 0 := by omega
        subst hk0
        go_wp2_with (first | ((with_reducible refine wpList_of_wp (o := ⟨some 45, _, _, _, _, _⟩) rfl (fun K hK => ?_)); refine (wp_bytes_row (.tmp 44) 40 9 5 rfl Try.underlying40 Try.underlying5 Try.underlying9 g 0 0 0 D.dur.length cap D.vis 5 rfl X1.out (by omega) (hK _ _ ?_))))
        go_ret2
        exact ⟨by simp, f1⟩
      · go_wp2_with (first | ((with_reducible refine wpList_of_wp (o := ⟨some 45, _, _, _, _, _⟩) rfl (fun K hK => ?_)); refine (wp_bytes_row (.tmp 44) 40 9 5 rfl Try.underlying40 Try.underlying5 Try.underlying9 g o (o + k - o) (cap - o) D.dur.length cap D.vis 5 rfl X1.out (by omega) (hK _ _ ?_))))
        go_ret2
        exact ⟨by simp, f1⟩
    · have hi : insB D.dur.length off n = false := by simpa using hi
      rw [show D.readS off n = [] by simp [Dk.readS, hi], show D.readE off n = 90 by simp [Dk.readE, ho, hi]]
      have hi2 : off < 0 ∨ (0 ≤ off ∧ n < 0) ∨ (0 ≤ off ∧ 0 ≤ n ∧ (D.dur.length : Int) < off) ∨ (0 ≤ off ∧ 0 ≤ n ∧ off ≤ D.dur.length ∧ (D.dur.length : Int) - off < n) := by simp [insB] at hi; omega
      clear hi
      rcases hi2 with h | ⟨h, h'⟩ | ⟨h, h', h''⟩ | ⟨h, h', h'', h'''⟩
      all_goals
        go_enter Try.func20, Try.ntmps20
        go_wp2_with fail
        go_ret2
        exact ⟨rfl, Fr.refl _ _⟩

theorem rfSync_in {w w1 w2 : World} {b g cap : Nat} {sv pv : Value} {D : Dk} (h : RfIn w b sv pv D) (x1 : w1.ownsRow 0 5 1 (.slice (some ⟨g, 0, none⟩) D.dur.length cap) D.dur.length (byteCells D.vis)) (_hf : Fr [] w w1) (hg : w.heap.size ≤ g)
    (hs : w2.heap[b]? = some (.cells #[.slice (some ⟨g, 0, none⟩) D.dur.length cap, .slice none 0 0, .bool D.off, .int .i64 D.left] 43 (0, 0))) (hf2 : Fr [b] w1 w2) : RfIn w2 b (.slice (some ⟨g, 0, none⟩) D.dur.length cap) (.slice none 0 0) D.sync := by
  have hbl := blk_lt h.str
  have e : D.sync.dur.length = D.dur.length := h.ok.len
  refine ⟨⟨rfl, by rw [e]; exact h.ok.pos, by rw [e]; exact h.ok.max, h.ok.left, by simp [Dk.sync]⟩, coh_sync D, hs, ?_, ⟨by simp [Dk.sync, pendC], .inl ⟨rfl, by simp [Dk.sync]⟩⟩, fun k hk => ?_, fun k hk => by cases hk⟩
  · rw [e]
    exact ownsRow_keep x1 fun k hk => hf2.block k (ownsRow_lt x1 hk) (by simp [Value.ownBlock] at hk; simp; omega)
  · simp [Value.ownBlock] at hk; omega

set_option maxRecDepth 100000 in
set_option maxHeartbeats 2000000 in
theorem rSync_dk (b : Nat) (fp : List Nat) (D : Dk) (w : World) (h : RfA w b fp D) (hp : D.pend.length ≤ 4294967296) :
    Calls Try.prog 31 #[.pointer (some ⟨b, 0, none⟩)] w (RfStep b fp (.int .i64 D.syncE) D.syncD w) := by
  obtain ⟨sv, pv, h, rfl⟩ := h
  have CV := Lib.hid (rVisible_c b sv pv D w h hp)
  have c2 : w.cell? ⟨b, 2, none⟩ = some (.bool D.off) := cell_of_blk h.str 2
  have H := Lib.hid h; clear h
  by_cases ho : D.off = true
  · rw [ho] at c2
    rw [show D.syncE = 91 by simp [Dk.syncE, ho], show D.syncD = D by simp [Dk.syncD, ho]]
    go_enter Try.func31, Try.ntmps31
    go_wp2
    go_ret
    exact rfStep_same rfl ⟨sv, pv, H.out, rfl⟩ rfl
  · have ho : D.off = false := by simpa using ho
    rw [ho] at c2
    rw [show D.syncE = 0 by simp [Dk.syncE, ho], show D.syncD = D.sync by simp [Dk.syncD, ho]]
    go_enter Try.func31, Try.ntmps31
    go_wp2_with fail
    refine CV.out.mono ?_
    rintro e w1 ⟨g, cap, rfl, x1, f1, hg⟩
    have KB := Lib.hid (f1.keep H.out.str (by simp))
    have X1 := Lib.hid x1; have F1 := Lib.hid f1; clear x1 f1 CV
    have k0 : w1.cell? ⟨b, 0, none⟩ = some sv := cell_of_blk KB.out 0
    have k1 : w1.cell? ⟨b, 1, none⟩ = some pv := cell_of_blk KB.out 1
    have z0 := free_of_blk KB.out 0
    have z1 := free_of_blk KB.out 1
    go_wp2
    go_ret
    have hs := heap_setCell_same (i := 1) (.slice none 0 0) (heap_setCell_same (i := 0) (.slice (some ⟨g, 0, none⟩) D.dur.length cap) KB.out)
    have f2 : Fr [b] w1 ((w1.setCell ⟨b, 0, none⟩ (.slice (some ⟨g, 0, none⟩) D.dur.length cap)).setCell ⟨b, 1, none⟩ (.slice none 0 0)) := (Fr.setCell _ _ (by simp)).trans (Fr.setCell _ _ (by simp))
    exact rfStep_in rfl (rfSync_in H.out X1.out F1.out hg hs f2) ((F1.out.mono (by simp)).trans f2) (by simp) (by simp) (fun k hk => .inr (by simp [Value.ownBlock] at hk; omega)) (fun k hk => by cases hk)

end Go.Proofs.Ytanjjgodlgmfcaa
