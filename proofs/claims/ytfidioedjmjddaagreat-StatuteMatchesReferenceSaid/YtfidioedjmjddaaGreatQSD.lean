/-
  statute: proves.
-/
import Derived.Test.YtfidioedjmjddaaGreatQStR4
namespace Go.Proofs.YtfidioedjmjddaaGreat
open Go.RowKit Go.Lib Go.Maps

/-- The number of the last finding among the first k, or -1. -/
def lastTo (l : List Fd) (k : Nat) : Int := ((⟨-1, false, 0, 0⟩ : Fd) :: l).getD k default |>.says
theorem lastTo_zero (l : List Fd) : lastTo l 0 = -1 := rfl
theorem lastTo_succ (l : List Fd) (k : Nat) (h : k < l.length) : lastTo l (k + 1) = l[k].says := by simp [lastTo, h]
theorem lastTo_end (l : List Fd) : lastTo l l.length = lastOf l := by
  cases l with
  | nil => rfl
  | cons a l => simp [lastTo, lastOf, List.getLast?_eq_getElem?]
theorem holds_end (l : List Fd) (h : 0 < l.length) : (l.getLast?.map (·.holds)).getD false = (l[l.length - 1]).holds := by
  rw [List.getLast?_eq_getElem?, List.getElem?_eq_getElem (by omega)]
  rfl

set_option maxRecDepth 100000 in
set_option maxHeartbeats 8000000 in
theorem proves_c (J : Jn) (n : Int) (h : Bool) (vl : Value) (l : List Fd) (w : World) (hJ : JS J w) (hs : Sl w vl l.length (l.flatMap fdC)) :
    Calls Tryz.prog 48 #[.pointer (some ⟨J.bj, 0, none⟩), .int .i64 n, .bool h, vl] w fun e w' => e = .returned (.bool (provesB J.c J.fs J.cs n h l)) ∧ Fr [] w w' := by
  obtain ⟨a, cap, rfl⟩ := hs.val
  have hlen := hs.len
  have HJ := Lib.hid hJ; have HS := Lib.hid hs; clear hJ hs
  obtain ⟨r, hr⟩ : ∃ r, r = provesB J.c J.fs J.cs n h l := ⟨_, rfl⟩
  rw [← hr]
  have HR := Lib.hid hr; clear hr
  have HRf : Hid (provesGo J.c J.fs J.cs l (-1) l = false → r = false) := Lib.hid fun hf => by rw [HR.out, provesB, hf]; rfl
  go_enter Tryz.func48, Tryz.ntmps48
  go_wp2_with fail
  go_loopw [9, 14] (fun la i wr => ∃ k : Nat, k ≤ l.length ∧ i = .int .i64 k ∧ la = .int .i64 (lastTo l k) ∧ Hid (Fr [] w wr) ∧ Hid (provesGo J.c J.fs J.cs l (-1) l = provesGo J.c J.fs J.cs l (lastTo l k) (l.drop k)) ∧ Hid (-1 ≤ lastTo l k ∧ lastTo l k ≤ 19)) (fun _ i _ => l.length - (intOf i).toNat)
  case atStart => exact ⟨0, Nat.zero_le _, rfl, rfl, Lib.hid (Fr.refl _ _), Lib.hid rfl, Lib.hid ⟨by simp [lastTo], by simp [lastTo]⟩⟩
  case round =>
    obtain ⟨k, hk, rfl, rfl, HF, HG, HB⟩ := hrel
    by_cases hlt : k < l.length
    · obtain ⟨b, off, ha, hc⟩ := (HS.out.same HF.out).at_ (by omega)
      subst ha
      have d0 := hc (k * 4 + 0) _ ((flat_get (enc := fdC) (k := 4) (fun _ => rfl) l k hlt 0 (by omega)).trans rfl)
      have d1 := hc (k * 4 + 1) _ ((flat_get (enc := fdC) (k := 4) (fun _ => rfl) l k hlt 1 (by omega)).trans rfl)
      have d2 := hc (k * 4 + 2) _ ((flat_get (enc := fdC) (k := 4) (fun _ => rfl) l k hlt 2 (by omega)).trans rfl)
      have d3 := hc (k * 4 + 3) _ ((flat_get (enc := fdC) (k := 4) (fun _ => rfl) l k hlt 3 (by omega)).trans rfl)
      simp only [Nat.add_zero, ← Nat.add_assoc] at d0 d1 d2 d3
      have hst : provesGo J.c J.fs J.cs l (lastTo l k) (l.drop k) = (isInB l[k].says (lastTo l k + 1) 19 && rightB J.c J.fs J.cs l[k] l && provesGo J.c J.fs J.cs l l[k].says (l.drop (k + 1))) := by
        rw [List.drop_eq_getElem_cons hlt]; rfl
      have hls := lastTo_succ l k hlt
      have CR : Hid (∀ W, Fr [] w W → Calls Tryz.prog 62 #[.pointer (some ⟨J.bj, 0, none⟩), fdV l[k], .slice (some ⟨b, off, none⟩) l.length cap] W fun e w' => e = .returned (.bool (rightB J.c J.fs J.cs l[k] l)) ∧ Fr [] W w') := Lib.hid fun W hf => right_c J l[k] _ l W (HJ.out.same hf) (HS.out.same hf)
      have HST := Lib.hid hst; have HLS := Lib.hid hls
      clear hst hls hc
      generalize l[k] = x at *
      generalize hla : lastTo l k = la at *
      have hb1 := HB.out.1
      have hb2 := HB.out.2
      clear hla
      obtain ⟨x0, x1, x2, x3⟩ := x
      simp only [fdV] at d0 d1 d2 d3 CR HST HLS
      have FA := Lib.hid (HF.out.trans (Fr.alloc [] wr (.cells #[.int .i64 x0, .bool x1, .int .i64 x2, .int .i64 x3] 62)))
      go_wp2_with fail
      refine (isIn_c _ _ _ _).mono ?_
      rintro e w1 ⟨rfl, rfl⟩
      cases hi : isInB x0 (la + 1) 19
      · have hf : r = false := HRf.out (by rw [HG.out, HST.out, hi]; rfl)
        go_wp2_with fail
        go_ret
        exact ⟨by rw [hf]; rfl, FA.out⟩
      · have hxb := isInB_iff.1 hi
        go_wp2_with fail
        refine (CR.out _ FA.out).mono ?_
        rintro e w2 ⟨rfl, f2⟩
        have K2 := f2.keep (heap_alloc_new wr (.cells #[.int .i64 x0, .bool x1, .int .i64 x2, .int .i64 x3] 62)) (by simp)
        have k0 : w2.cell? ⟨wr.heap.size, 0, none⟩ = some (.int .i64 x0) := cell_of_blk K2 0
        have F2 := Lib.hid (FA.out.trans f2)
        clear f2 K2
        cases hrt : rightB J.c J.fs J.cs ⟨x0, x1, x2, x3⟩ l
        · have hf : r = false := HRf.out (by rw [HG.out, HST.out, hi, hrt]; rfl)
          go_wp2_with fail
          go_ret
          exact ⟨by rw [hf]; rfl, F2.out⟩
        · have HG2 : Hid (provesGo J.c J.fs J.cs l (-1) l = provesGo J.c J.fs J.cs l x0 (l.drop (k + 1))) := Lib.hid (by rw [HG.out, HST.out, hi, hrt]; rfl)
          clear hi hrt
          go_wp2_with fail
          go_roundw
          case rel => exact ⟨k + 1, by omega, by go_num, by rw [HLS.out], F2, Lib.hid (by rw [HLS.out]; exact HG2.out), Lib.hid (by rw [HLS.out]; omega)⟩
          case measure => simp [intOf]; omega
    · obtain rfl : k = l.length := by omega
      have hg1 : provesGo J.c J.fs J.cs l (-1) l = true := by rw [HG.out, List.drop_length]; rfl
      have hr := HR.out
      rw [provesB, hg1, Bool.true_and] at hr
      by_cases h0 : 0 < l.length
      · have hne : decide (l ≠ []) = true := by
          cases l with
          | nil => simp at h0
          | cons a l => simp
        rw [hne, Bool.true_and, holds_end l h0, ← lastTo_end] at hr
        obtain ⟨b, off, ha, hc⟩ := (HS.out.same HF.out).at_ h0
        subst ha
        have d1 := hc ((l.length - 1) * 4 + 1) _ ((flat_get (enc := fdC) (k := 4) (fun _ => rfl) l (l.length - 1) (by omega) 1 (by omega)).trans rfl)
        simp only [← Nat.add_assoc] at d1
        have HRR := Lib.hid hr
        clear hr hg1 hc hne
        generalize (l[l.length - 1]).holds = hh at *
        generalize lastTo l l.length = la at *
        have hi1 : ((l.length : Int) - 1).toNat = l.length - 1 := by omega
        have hge : (0 : Int) ≤ (l.length : Int) - 1 := by omega
        by_cases hla : la = n
        · subst hla
          go_wp2_with fail
          go_ret
          exact ⟨by rw [HRR.out]; simp, HF.out⟩
        · go_wp2_with fail
          go_ret
          exact ⟨by rw [HRR.out]; simp [hla], HF.out⟩
      · have hl0 : l = [] := List.eq_nil_of_length_eq_zero (by omega)
        have hf : r = false := by rw [hr, hl0]; rfl
        have hz : l.length = 0 := by omega
        clear hr
        go_wp2_with fail
        go_ret
        exact ⟨by rw [hf]; rfl, HF.out⟩

end Go.Proofs.YtfidioedjmjddaaGreat

/-
  statute: open, Check; slices.Clone and slices.Delete at findings.
-/
namespace Go.Proofs.YtfidioedjmjddaaGreat
open Go.RowKit Go.Lib Go.Maps

/-- What open returns. -/
def Opened (ys : List ClV) (c : Rb) (q : Qn) (w : World) (e : Ending) (w' : World) : Prop :=
  Fr [] w w' ∧ ((okB c q = false ∧ ∃ p, e = .returned (.tuple #[.pointer p, .int .i64 80])) ∨
    (okB c q = true ∧ ∃ J D, e = .returned (.tuple #[.pointer (some ⟨J.bj, 0, none⟩), .int .i64 0]) ∧ JS J w' ∧ FoundAt w' J.bm J.fd D ∧ J.c = c ∧ J.fs = factsOf c q ∧ J.cs = clausesOf c q ∧ J.ys = ys ∧ w.heap.size ≤ J.bm ∧ w.heap.size ≤ J.bj))

theorem factsOf_sub {c : Rb} {q : Qn} {i : Int} (h : i ∈ factsOf c q) : 0 ≤ i ∧ i < c.fas.length := pickN_lt h
theorem clausesOf_sub {c : Rb} {q : Qn} {i : Int} (h : i ∈ clausesOf c q) : 0 ≤ i ∧ i < c.cls.length := pickN_lt h

theorem emptyFound (w : World) (f : Int → Fd) : FoundAt (w.alloc (.map #[] 0)) w.heap.size f (.map []) := by
  refine ⟨?_, fun k _ h => ?_⟩
  · have : cntD (.map [] : DataW Unit) 20 = 0 := by
      unfold cntD
      rw [List.filter_eq_nil_iff.2 (fun k _ => by simp [Maps.has])]
      rfl
    rw [this]
    exact World.ownsMap_made w Tryz.prog 3 fdR
  · simp [Maps.has] at h

set_option maxRecDepth 100000 in
set_option maxHeartbeats 4000000 in
theorem open_c (vc vr vf : Value) (ys : List ClV) (c : Rb) (q : Qn) (w : World) (h : RbAt w vc vr vf ys c) : Calls Tryz.prog 44 #[rbV vc vr vf, qnV q] w (Opened ys c q w) := by
  have hcl : c.cls.length = ys.length := by rw [h.eq]; simp
  obtain ⟨ac, pc, rfl⟩ := h.cls.sl.val
  obtain ⟨ar, pr, rfl⟩ := h.rps.val
  obtain ⟨af, pf, rfl⟩ := h.fas.val
  obtain ⟨th, sa, at_, kn⟩ := q
  have A2 := alloc2' w (.cells #[.slice ac ys.length pc, .slice ar c.rps.length pr, .slice af c.fas.length pf] 30) (.cells #[.int .i64 th, .int .i64 sa, .int .i64 at_, .int .i64 kn] 33)
  have F2 : Fr [] w ((w.alloc (.cells #[.slice ac ys.length pc, .slice ar c.rps.length pr, .slice af c.fas.length pf] 30)).alloc (.cells #[.int .i64 th, .int .i64 sa, .int .i64 at_, .int .i64 kn] 33)) := (Fr.alloc _ _ _).trans (Fr.alloc _ _ _)
  have CA := Lib.hid (applies_c _ _ _ ys c ⟨th, sa, at_, kn⟩ _ (h.same F2))
  have HA := Lib.hid A2; have HF := Lib.hid F2; have HR := Lib.hid h; clear A2 F2 h
  have hmm := @run_makeMap Tryz.prog
  unfold rbV qnV at *
  simp only at CA ⊢
  go_enter Tryz.func44, Tryz.ntmps44
  go_wp2_with fail
  refine CA.out.mono ?_
  rintro e w1 ⟨f1, h1⟩
  have K0 := f1.keep HA.out.1 (by simp)
  have c0 : w1.cell? ⟨w.heap.size, 0, none⟩ = some (.slice ac ys.length pc) := cell_of_blk K0 0
  have c1 : w1.cell? ⟨w.heap.size, 1, none⟩ = some (.slice ar c.rps.length pr) := cell_of_blk K0 1
  have c2 : w1.cell? ⟨w.heap.size, 2, none⟩ = some (.slice af c.fas.length pf) := cell_of_blk K0 2
  have F1 := Lib.hid (HF.out.trans f1)
  clear K0 f1 CA
  rcases h1 with ⟨ho, rfl⟩ | ⟨ho, v1, v2, rfl, r1, r2, n1, n2⟩
  · have Ho := Lib.hid ho; clear ho
    go_wp2_with fail
    go_ret2
    exact ⟨(F1.out.trans (Fr.alloc _ _ _)).trans (Fr.alloc _ _ _), .inl ⟨Ho.out, _, rfl⟩⟩
  · have S1 := Lib.hid (sl_of_row r1)
    have S2 := Lib.hid (sl_of_row r2)
    obtain ⟨a1, p1, rfl⟩ := S1.out.val
    obtain ⟨a2, p2, rfl⟩ := S2.out.val
    have Ho := Lib.hid ho
    clear r1 r2 n1 n2 ho
    go_wp2_with fail
    go_ret2
    have hok := Ho.out
    simp only [okB, Bool.and_eq_true] at hok
    have f3 : Fr [] w1 ((w1.alloc (.map #[] 0)).alloc (.cells #[.slice ac ys.length pc, .slice ar c.rps.length pr, .slice af c.fas.length pf, .slice a1 (factsOf c ⟨th, sa, at_, kn⟩).length p1, .slice a2 (clausesOf c ⟨th, sa, at_, kn⟩).length p2, .map (some w1.heap.size)] 91)) := (Fr.alloc _ _ _).trans (Fr.alloc _ _ _)
    have A3 := alloc2' w1 (.map #[] 0) (.cells #[.slice ac ys.length pc, .slice ar c.rps.length pr, .slice af c.fas.length pf, .slice a1 (factsOf c ⟨th, sa, at_, kn⟩).length p1, .slice a2 (clausesOf c ⟨th, sa, at_, kn⟩).length p2, .map (some w1.heap.size)] 91)
    have hs1 := F1.out.size
    refine ⟨F1.out.trans f3, .inr ⟨Ho.out, ⟨w1.heap.size + 1, w1.heap.size, _, _, _, _, _, ys, c, factsOf c ⟨th, sa, at_, kn⟩, clausesOf c ⟨th, sa, at_, kn⟩⟩, .map [], rfl, ⟨A3.2, HR.out.same (F1.out.trans f3), S1.out.same f3, S2.out.same f3, hok.1, good_of_valid hok.1, fun i hi => factsOf_sub hi, fun i hi => by have := clausesOf_sub hi; rw [hcl] at this; exact this⟩, (emptyFound w1 _).fr (Fr.alloc _ _ _), rfl, rfl, rfl, rfl, hs1, by simp only; omega⟩⟩

set_option maxRecDepth 100000 in
set_option maxHeartbeats 4000000 in
theorem check_c (vc vr vf vl : Value) (ys : List ClV) (c : Rb) (q : Qn) (hh : Bool) (l : List Fd) (w : World) (h : RbAt w vc vr vf ys c) (hl : Sl w vl l.length (l.flatMap fdC)) : Calls Tryz.prog 21 #[rbV vc vr vf, qnV q, .bool hh, vl] w fun e w' => e = .returned (.bool (checkB c q hh l)) ∧ Fr [] w w' := by
  obtain ⟨ac, pc, rfl⟩ := h.cls.sl.val
  obtain ⟨ar, pr, rfl⟩ := h.rps.val
  obtain ⟨af, pf, rfl⟩ := h.fas.val
  obtain ⟨al, pl, rfl⟩ := hl.val
  obtain ⟨th, sa, at_, kn⟩ := q
  have A2 := alloc2' w (.cells #[.slice ac ys.length pc, .slice ar c.rps.length pr, .slice af c.fas.length pf] 30) (.cells #[.int .i64 th, .int .i64 sa, .int .i64 at_, .int .i64 kn] 33)
  have F2 : Fr [] w ((w.alloc (.cells #[.slice ac ys.length pc, .slice ar c.rps.length pr, .slice af c.fas.length pf] 30)).alloc (.cells #[.int .i64 th, .int .i64 sa, .int .i64 at_, .int .i64 kn] 33)) := (Fr.alloc _ _ _).trans (Fr.alloc _ _ _)
  have CO := Lib.hid (open_c _ _ _ ys c ⟨th, sa, at_, kn⟩ _ (h.same F2))
  have HA := Lib.hid A2; have HF := Lib.hid F2; have HL := Lib.hid hl; clear A2 F2 h hl
  unfold rbV qnV at *
  simp only at CO ⊢
  go_enter Tryz.func21, Tryz.ntmps21
  go_wp2_with fail
  refine CO.out.mono ?_
  rintro e w1 ⟨f1, h1⟩
  have K1 := f1.keep HA.out.2 (by simp)
  have c1 : w1.cell? ⟨w.heap.size + 1, 1, none⟩ = some (.int .i64 sa) := cell_of_blk K1 1
  have F1 := Lib.hid (HF.out.trans f1)
  clear K1 f1 CO
  rcases h1 with ⟨ho, p, rfl⟩ | ⟨ho, J, D, rfl, hJ, hD, rfl, e2, e3, _, _, _⟩
  · have hc : checkB c ⟨th, sa, at_, kn⟩ hh l = false := by simp [checkB, ho]
    have HC := Lib.hid hc
    clear hc ho
    go_wp2_with fail
    go_ret
    exact ⟨by rw [HC.out]; rfl, F1.out⟩
  · have hc : checkB J.c ⟨th, sa, at_, kn⟩ hh l = provesB J.c J.fs J.cs sa hh l := by simp only [checkB, ho, Bool.true_and, e2, e3]
    have HC := Lib.hid hc
    have CP := Lib.hid (proves_c J sa hh _ l w1 hJ (HL.out.same F1.out))
    clear hc ho hJ hD e2 e3
    go_wp2_with (first | (go_at_call 48; refine CP.out.mono ?_; rintro e w2 ⟨rfl, f2⟩; have F2 := Lib.hid f2; clear f2))
    go_ret
    exact ⟨by rw [HC.out]; rfl, F1.out.trans F2.out⟩

end Go.Proofs.YtfidioedjmjddaaGreat
