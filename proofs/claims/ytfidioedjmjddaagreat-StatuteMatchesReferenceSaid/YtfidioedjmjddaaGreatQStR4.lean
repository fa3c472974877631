/-
  statute: isRight.
-/
import Derived.Test.YtfidioedjmjddaaGreatQSR
import Derived.Laws.EntriesVeiled
import Derived.Test.YtfidioedjmjddaaGreatQRg
namespace Go.Proofs.YtfidioedjmjddaaGreat
open Go.RowKit Go.Lib Go.Maps

theorem alloc5' (w : World) (a b c d e : Obj) :
    let W := ((((w.alloc a).alloc b).alloc c).alloc d).alloc e
    W.heap[w.heap.size]? = some a ∧ W.heap[w.heap.size + 1]? = some b ∧ W.heap[w.heap.size + 1 + 1]? = some c ∧ W.heap[w.heap.size + 1 + 1 + 1]? = some d ∧ W.heap[w.heap.size + 1 + 1 + 1 + 1]? = some e := by
  have h := alloc3' w a b c
  have s3 : (((w.alloc a).alloc b).alloc c).heap.size = w.heap.size + 1 + 1 + 1 := by simp
  have h2 := alloc2' (((w.alloc a).alloc b).alloc c) d e
  rw [s3] at h2
  exact ⟨heap_alloc_old _ (heap_alloc_old _ h.1), heap_alloc_old _ (heap_alloc_old _ h.2.1), heap_alloc_old _ (heap_alloc_old _ h.2.2), h2.1, h2.2⟩

/-- A clause that applies, in memory. -/
theorem JS.clause {J : Jn} {w : World} (h : JS J w) {i : Int} (hi : i ∈ J.cs) : ∃ (ii b o pc : Nat) (pub f t gives : Int) (needs bars : List Int) (an ab : Option Addr) (pn pb : Nat), i = ii ∧ ii < J.ys.length ∧ J.ys.length ≤ 9223372036854775807 ∧ J.vc = .slice (some ⟨b, o, none⟩) J.ys.length pc ∧ J.c.cl i = ⟨pub, f, t, needs, bars, gives⟩ ∧
    w.cell? ⟨b, o + ii * 6, none⟩ = some (.int .i64 pub) ∧ w.cell? ⟨b, o + ii * 6 + 1, none⟩ = some (.int .i64 f) ∧ w.cell? ⟨b, o + ii * 6 + 2, none⟩ = some (.int .i64 t) ∧ w.cell? ⟨b, o + ii * 6 + 3, none⟩ = some (.slice an needs.length pn) ∧ w.cell? ⟨b, o + ii * 6 + 4, none⟩ = some (.slice ab bars.length pb) ∧ w.cell? ⟨b, o + ii * 6 + 5, none⟩ = some (.int .i64 gives) ∧
    IntsAt w (.slice an needs.length pn) needs ∧ IntsAt w (.slice ab bars.length pb) bars := by
  have hsub := h.csub i hi
  obtain ⟨ii, rfl⟩ := Int.eq_ofNat_of_zero_le hsub.1
  have hil : ii < J.ys.length := by omega
  have heq : J.c.cls = J.ys.map (·.x) := h.rb.eq
  have hcl : J.c.cl ii = J.ys[ii].x := by simp [Rb.cl, heq, hil]
  obtain ⟨ac, pc, hvc⟩ := h.rb.cls.sl.val
  have hsl := h.rb.cls.sl
  rw [hvc] at hsl
  obtain ⟨b2, o2, h2, hc2⟩ := hsl.at_ (by omega)
  subst h2
  have d0 := hc2 (ii * 6 + 0) _ ((flat_get (enc := clC) (k := 6) (fun _ => rfl) J.ys ii hil 0 (by omega)).trans rfl)
  have d1 := hc2 (ii * 6 + 1) _ ((flat_get (enc := clC) (k := 6) (fun _ => rfl) J.ys ii hil 1 (by omega)).trans rfl)
  have d2 := hc2 (ii * 6 + 2) _ ((flat_get (enc := clC) (k := 6) (fun _ => rfl) J.ys ii hil 2 (by omega)).trans rfl)
  have d3 := hc2 (ii * 6 + 3) _ ((flat_get (enc := clC) (k := 6) (fun _ => rfl) J.ys ii hil 3 (by omega)).trans rfl)
  have d4 := hc2 (ii * 6 + 4) _ ((flat_get (enc := clC) (k := 6) (fun _ => rfl) J.ys ii hil 4 (by omega)).trans rfl)
  have d5 := hc2 (ii * 6 + 5) _ ((flat_get (enc := clC) (k := 6) (fun _ => rfl) J.ys ii hil 5 (by omega)).trans rfl)
  simp only [Nat.add_zero, ← Nat.add_assoc] at d0 d1 d2 d3 d4 d5
  have hN := h.rb.cls.needs J.ys[ii] (List.getElem_mem hil)
  have hB := h.rb.cls.bars J.ys[ii] (List.getElem_mem hil)
  obtain ⟨an, pn, hvn⟩ := hN.val
  obtain ⟨ab, pb, hvb⟩ := hB.val
  have hyl := h.rb.cls.sl.len
  rw [hcl]
  generalize J.ys[ii] = y at *
  obtain ⟨⟨pub, f, t, needs, bars, gives⟩, vn, vb⟩ := y
  simp only at d0 d1 d2 d3 d4 d5 hvn hvb hN hB
  subst hvn hvb
  exact ⟨ii, b2, o2, pc, pub, f, t, gives, needs, bars, an, ab, pn, pb, rfl, hil, hyl, hvc, rfl, d0, d1, d2, d3, d4, d5, hN, hB⟩
/-- What a fact that applies says, in memory. -/
theorem JS.fact {J : Jn} {w : World} (h : JS J w) {i : Int} (hi : i ∈ J.fs) : ∃ (ii b o pf : Nat), i = ii ∧ ii < J.c.fas.length ∧ J.c.fas.length ≤ 9223372036854775807 ∧ J.vf = .slice (some ⟨b, o, none⟩) J.c.fas.length pf ∧ w.cell? ⟨b, o + ii * 6 + 1, none⟩ = some (.int .i64 (J.c.fa i).says) := by
  have hsub := h.fsub i hi
  obtain ⟨ii, rfl⟩ := Int.eq_ofNat_of_zero_le hsub.1
  have hil : ii < J.c.fas.length := by omega
  have hfa : J.c.fa ii = J.c.fas[ii] := by simp [Rb.fa, hil]
  obtain ⟨af, pf, hvf⟩ := h.rb.fas.val
  have hsl := h.rb.fas
  rw [hvf] at hsl
  obtain ⟨b2, o2, h2, hc2⟩ := hsl.at_ (by omega)
  subst h2
  have e1 := hc2 (ii * 6 + 1) _ ((flat_get (enc := faC) (k := 6) (fun _ => rfl) J.c.fas ii hil 1 (by omega)).trans rfl)
  simp only [← Nat.add_assoc] at e1
  exact ⟨ii, b2, o2, pf, rfl, hil, h.rb.fas.len, hvf, by rw [hfa]; exact e1⟩

set_option maxRecDepth 100000 in
set_option maxHeartbeats 8000000 in
theorem right_c (J : Jn) (x : Fd) (vl : Value) (l : List Fd) (w : World) (hJ : JS J w) (hs : Sl w vl l.length (l.flatMap fdC)) :
    Calls Tryz.prog 62 #[.pointer (some ⟨J.bj, 0, none⟩), fdV x, vl] w fun e w' => e = .returned (.bool (rightB J.c J.fs J.cs x l)) ∧ Fr [] w w' := by
  obtain ⟨a, cap, rfl⟩ := hs.val
  have hE : ∃ W5, W5 = ((((w.alloc (.cells #[.pointer (some ⟨J.bj, 0, none⟩)] 86)).alloc (.cells #[.int .i64 x.says, .bool x.holds, .int .i64 x.fact, .int .i64 x.cl] 62)).alloc (.cells #[.slice a l.length cap] 34)).alloc (.cells #[.func (.func 72) #[] #[.pointer (some ⟨w.heap.size + 1 + 1, 0, none⟩)]] 116)).alloc (.cells #[.func (.func 75) #[] #[.pointer (some ⟨w.heap.size, 0, none⟩), .pointer (some ⟨w.heap.size + 1 + 1 + 1, 0, none⟩)]] 77) := ⟨_, rfl⟩
  obtain ⟨W5, hW5⟩ := hE
  have f5 : Fr [] w W5 := by rw [hW5]; exact ((((Fr.alloc _ _ _).trans (Fr.alloc _ _ _)).trans (Fr.alloc _ _ _)).trans (Fr.alloc _ _ _)).trans (Fr.alloc _ _ _)
  have A5 := alloc5' w (.cells #[.pointer (some ⟨J.bj, 0, none⟩)] 86) (.cells #[.int .i64 x.says, .bool x.holds, .int .i64 x.fact, .int .i64 x.cl] 62) (.cells #[.slice a l.length cap] 34) (.cells #[.func (.func 72) #[] #[.pointer (some ⟨w.heap.size + 1 + 1, 0, none⟩)]] 116) (.cells #[.func (.func 75) #[] #[.pointer (some ⟨w.heap.size, 0, none⟩), .pointer (some ⟨w.heap.size + 1 + 1 + 1, 0, none⟩)]] 77)
  simp only [← hW5] at A5
  have RE : Hid (REnv J w.heap.size (w.heap.size + 1) (w.heap.size + 1 + 1) (w.heap.size + 1 + 1 + 1) (w.heap.size + 1 + 1 + 1 + 1) x (.slice a l.length cap) l W5) := Lib.hid ⟨A5.1, A5.2.1, A5.2.2.1, A5.2.2.2.1, A5.2.2.2.2, hJ.same f5, hs.same f5⟩
  have F5 := Lib.hid f5; have HW := Lib.hid hW5
  clear hW5 f5 A5 hJ hs
  have c3 : W5.cell? ⟨w.heap.size, 0, none⟩ = some (.pointer (some ⟨J.bj, 0, none⟩)) := cell_of_blk RE.out.h3 0
  have x0 : W5.cell? ⟨w.heap.size + 1, 0, none⟩ = some (.int .i64 x.says) := cell_of_blk RE.out.h4 0
  have x2 : W5.cell? ⟨w.heap.size + 1, 2, none⟩ = some (.int .i64 x.fact) := cell_of_blk RE.out.h4 2
  have x3 : W5.cell? ⟨w.heap.size + 1, 3, none⟩ = some (.int .i64 x.cl) := cell_of_blk RE.out.h4 3
  have q0 : W5.cell? ⟨J.bj, 0, none⟩ = some J.vc := cell_of_blk RE.out.js.str 0
  have q2 : W5.cell? ⟨J.bj, 2, none⟩ = some J.vf := cell_of_blk RE.out.js.str 2
  have q3 : W5.cell? ⟨J.bj, 3, none⟩ = some J.v1 := cell_of_blk RE.out.js.str 3
  have q4 : W5.cell? ⟨J.bj, 4, none⟩ = some J.v2 := cell_of_blk RE.out.js.str 4
  obtain ⟨sx, hx, fx, cx⟩ := x
  simp only at x0 x2 x3 HW
  unfold fdV
  simp only
  cases hx with
  | true =>
    by_cases hc : cx = -1
    · subst hc
      have er : rightB J.c J.fs J.cs ⟨sx, true, fx, -1⟩ l = (J.fs.contains fx && decide ((J.c.fa fx).says = sx)) := by simp [rightB]
      rw [er]
      clear er
      have CC : Hid (∀ n, Calls Tryz.prog 78 #[J.v1, .int .i64 fx] (W5.drewN n) fun e w' => e = .returned (.bool (J.fs.contains fx)) ∧ w' = W5.drewN n) := Lib.hid fun n => (contInt_c J.v1 J.fs fx _ (RE.out.js.f.same (Fr.drewN _ _ _))).mono fun _ _ h => ⟨h.1, h.2.symm⟩
      cases hb : J.fs.contains fx with
      | true =>
        rw [hb] at CC
        obtain ⟨ii, b, o, pf, hfx, hil, hfl, hvf, e1⟩ := RE.out.js.fact (i := fx) (by simpa using hb)
        rw [hvf] at q2
        subst hfx
        have hix : (ii : Int) < (J.c.fas.length : Int) := by omega
        generalize (J.c.fa ii).says = sy at *
        go_enter Tryz.func62, Tryz.ntmps62
        go_wp2_with fail
        rw [← HW.out]
        go_quiet (first | (go_at_call 78; refine Calls.quiet_of_same (CC.out _)))
        go_wp2_with fail
        go_ret
        refine ⟨?_, F5.out.trans (Fr.drewN _ _ _)⟩
        by_cases h : sy = sx <;> simp [h]
      | false =>
        rw [hb] at CC
        go_enter Tryz.func62, Tryz.ntmps62
        go_wp2_with fail
        rw [← HW.out]
        go_quiet (first | (go_at_call 78; refine Calls.quiet_of_same (CC.out _)))
        go_wp2_with fail
        go_ret
        exact ⟨by simp, F5.out.trans (Fr.drewN _ _ _)⟩
    · have hcd : (cx == -1) = false := by simpa using hc
      have er : rightB J.c J.fs J.cs ⟨sx, true, fx, cx⟩ l = (decide (fx = -1) && J.cs.contains cx && decide ((J.c.cl cx).gives = sx) && (J.c.cl cx).needs.all (fun n => findsB l n true) && (J.c.cl cx).bars.all (fun n => findsB l n false)) := by simp [rightB, hc]
      rw [er]
      clear er hc
      by_cases hf : fx = -1
      · subst hf
        have CC : Hid (∀ n, Calls Tryz.prog 78 #[J.v2, .int .i64 cx] (W5.drewN n) fun e w' => e = .returned (.bool (J.cs.contains cx)) ∧ w' = W5.drewN n) := Lib.hid fun n => (contInt_c J.v2 J.cs cx _ (RE.out.js.c.same (Fr.drewN _ _ _))).mono fun _ _ h => ⟨h.1, h.2.symm⟩
        cases hb : J.cs.contains cx with
        | true =>
          rw [hb] at CC
          obtain ⟨ii, b, o, pc, pub, f, t, gives, needs, bars, an, ab, pn, pb, hcx, hil, hyl, hvc, hcl, d0, d1, d2, d3, d4, d5, hN, hB⟩ := RE.out.js.clause (i := cx) (by simpa using hb)
          rw [hvc] at q0
          rw [hcl]
          subst hcx
          have hix : (ii : Int) < (J.ys.length : Int) := by omega
          simp only
          by_cases hg : gives = sx
          · subst hg
            have HN := Lib.hid hN; have HB := Lib.hid hB
            have hs3 := blk_lt RE.out.h3
            have hs4 := blk_lt RE.out.h4
            have hsj := blk_lt RE.out.js.str
            have hsb := World.block_lt_of_cell? W5 _ d0
            simp only at hsb
            clear hN hB hcl
            go_enter Tryz.func62, Tryz.ntmps62
            go_wp2_with fail
            rw [← HW.out]
            go_quiet (first | (go_at_call 78; refine Calls.quiet_of_same (CC.out _)))
            go_wp2_with fail
            refine reg_mix (fun W : World => ∀ p : Addr, p.block < W5.heap.size → W.cell? p = W5.cell? p) [0, 1, 2, 3, 4, 5, 6, 7, 8, 9, 10] (by kernel_rfl) (by kernel_rfl) (by kernel_rfl) rfl (fun p _ => rfl) ?_
            iterate 9 (refine mix_take1 (v := ?_) rfl rfl rfl rfl (fun W hS => ?_) ?_; rotate_left; (focus (have e0 := (hS ⟨w.heap.size, 0, none⟩ hs3).trans c3; have e1 := (hS ⟨w.heap.size + 1, 3, none⟩ hs4).trans x3; have e2 := (hS ⟨J.bj, 0, none⟩ hsj).trans q0; have e3 := (hS ⟨b, o + ii * 6, none⟩ hsb).trans d0; have e4 := (hS ⟨b, o + ii * 6 + 1, none⟩ hsb).trans d1; have e5 := (hS ⟨b, o + ii * 6 + 2, none⟩ hsb).trans d2; have e6 := (hS ⟨b, o + ii * 6 + 3, none⟩ hsb).trans d3; have e7 := (hS ⟨b, o + ii * 6 + 4, none⟩ hsb).trans d4; have e8 := (hS ⟨b, o + ii * 6 + 5, none⟩ hsb).trans d5; clear hS; go_simp; rfl)); simp only [List.setIfInBounds_toArray, List.set_cons_succ, List.set_cons_zero])
            refine mix_do rfl rfl rfl (fun K hK => ?_)
            go_simp
            refine hK _ _ (fun p hp => World.cell?_of_block (Below.heap_alloc _ _ _ hp)) ?_
            clear hK K
            have KZ : ((W5.drewN (nq + 1)).alloc (.cells #[.int .i64 0, .int .i64 0, .int .i64 0, .slice none 0 0, .slice none 0 0, .int .i64 0] 67)).heap[W5.heap.size]? = some (.cells #[.int .i64 0, .int .i64 0, .int .i64 0, .slice none 0 0, .slice none 0 0, .int .i64 0] 67 (0, 0)) := heap_alloc_new (W5.drewN (nq + 1)) _
            have FZ : Fr [] W5 ((W5.drewN (nq + 1)).alloc (.cells #[.int .i64 0, .int .i64 0, .int .i64 0, .slice none 0 0, .slice none 0 0, .int .i64 0] 67)) := (Fr.drewN _ _ _).trans (Fr.alloc _ _ _)
            generalize (W5.drewN (nq + 1)).alloc (.cells #[.int .i64 0, .int .i64 0, .int .i64 0, .slice none 0 0, .slice none 0 0, .int .i64 0] 67) = Z at *
            have t0 : Z.cell? ⟨W5.heap.size, 0, none⟩ = some (.int .i64 0) := cell_of_blk KZ 0
            have t1 : Z.cell? ⟨W5.heap.size, 1, none⟩ = some (.int .i64 0) := cell_of_blk KZ 1
            have t2 : Z.cell? ⟨W5.heap.size, 2, none⟩ = some (.int .i64 0) := cell_of_blk KZ 2
            have t3 : Z.cell? ⟨W5.heap.size, 3, none⟩ = some (.slice none 0 0) := cell_of_blk KZ 3
            have t4 : Z.cell? ⟨W5.heap.size, 4, none⟩ = some (.slice none 0 0) := cell_of_blk KZ 4
            have t5 : Z.cell? ⟨W5.heap.size, 5, none⟩ = some (.int .i64 0) := cell_of_blk KZ 5
            have z0 := free_of_blk KZ 0
            have z1 := free_of_blk KZ 1
            have z2 := free_of_blk KZ 2
            have z3 := free_of_blk KZ 3
            have z4 := free_of_blk KZ 4
            have z5 := free_of_blk KZ 5
            have f6 : Fr [W5.heap.size] Z ((((((Z.setCell ⟨W5.heap.size, 0, none⟩ (.int .i64 pub)).setCell ⟨W5.heap.size, 1, none⟩ (.int .i64 f)).setCell ⟨W5.heap.size, 2, none⟩ (.int .i64 t)).setCell ⟨W5.heap.size, 3, none⟩ (.slice an needs.length pn)).setCell ⟨W5.heap.size, 4, none⟩ (.slice ab bars.length pb)).setCell ⟨W5.heap.size, 5, none⟩ (.int .i64 gives)) := (((((Fr.setCell _ _ (by simp)).trans (Fr.setCell _ _ (by simp))).trans (Fr.setCell _ _ (by simp))).trans (Fr.setCell _ _ (by simp))).trans (Fr.setCell _ _ (by simp))).trans (Fr.setCell _ _ (by simp))
            have F6 : Hid (Fr [] W5 ((((((Z.setCell ⟨W5.heap.size, 0, none⟩ (.int .i64 pub)).setCell ⟨W5.heap.size, 1, none⟩ (.int .i64 f)).setCell ⟨W5.heap.size, 2, none⟩ (.int .i64 t)).setCell ⟨W5.heap.size, 3, none⟩ (.slice an needs.length pn)).setCell ⟨W5.heap.size, 4, none⟩ (.slice ab bars.length pb)).setCell ⟨W5.heap.size, 5, none⟩ (.int .i64 gives))) := Lib.hid (FZ.step f6 (fun i hi => by simp at hi; exact .inr (by omega)))
            have KX : Hid (((((((Z.setCell ⟨W5.heap.size, 0, none⟩ (.int .i64 pub)).setCell ⟨W5.heap.size, 1, none⟩ (.int .i64 f)).setCell ⟨W5.heap.size, 2, none⟩ (.int .i64 t)).setCell ⟨W5.heap.size, 3, none⟩ (.slice an needs.length pn)).setCell ⟨W5.heap.size, 4, none⟩ (.slice ab bars.length pb)).setCell ⟨W5.heap.size, 5, none⟩ (.int .i64 gives)).heap[W5.heap.size]? = some (.cells #[.int .i64 pub, .int .i64 f, .int .i64 t, .slice an needs.length pn, .slice ab bars.length pb, .int .i64 gives] 67 (0, 0))) := Lib.hid (heap_setCell_same (i := 5) _ (heap_setCell_same (i := 4) _ (heap_setCell_same (i := 3) _ (heap_setCell_same (i := 2) _ (heap_setCell_same (i := 1) _ (heap_setCell_same (i := 0) _ KZ))))))
            refine mix_do rfl rfl rfl (fun K hK => ?_)
            go_simp
            refine hK _ _ (fun p hp => World.cell?_of_block (F6.out.block p.block hp (by simp))) ?_
            clear hK K
            refine mix_end ?_
            clear t0 t1 t2 t3 t4 t5 z0 z1 z2 z3 z4 z5 KZ FZ f6
            generalize (((((Z.setCell ⟨W5.heap.size, 0, none⟩ (.int .i64 pub)).setCell ⟨W5.heap.size, 1, none⟩ (.int .i64 f)).setCell ⟨W5.heap.size, 2, none⟩ (.int .i64 t)).setCell ⟨W5.heap.size, 3, none⟩ (.slice an needs.length pn)).setCell ⟨W5.heap.size, 4, none⟩ (.slice ab bars.length pb)).setCell ⟨W5.heap.size, 5, none⟩ (.int .i64 gives) = W6 at *
            have k3 : W6.cell? ⟨W5.heap.size, 3, none⟩ = some (.slice an needs.length pn) := cell_of_blk KX.out 3
            have CN := Lib.hid (cf_right3 _ needs W6 (RE.out.same F6.out) (HN.out.same F6.out))
            go_wp2_with fail
            refine CN.out.mono ?_
            rintro e w7 ⟨rfl, f7⟩
            have F7 := Lib.hid (F6.out.trans f7)
            have K7 := f7.keep KX.out (by simp)
            have k4 : w7.cell? ⟨W5.heap.size, 4, none⟩ = some (.slice ab bars.length pb) := cell_of_blk K7 4
            have CB := Lib.hid (cf_right4 _ bars w7 (RE.out.same F7.out) (HB.out.same F7.out))
            clear f7 K7
            rw [any_not] at CN CB
            have ea : (needs.any fun n => !findsB l n true) = !needs.all (fun n => findsB l n true) := any_not _ _
            cases hb2 : needs.all (fun n => findsB l n true)
            · rw [ea, hb2]
              clear ea
              go_wp2_with fail
              go_ret
              exact ⟨by rw [hb2]; simp, F5.out.trans F7.out⟩
            · rw [ea, hb2]
              clear ea
              go_wp2_with fail
              refine CB.out.mono ?_
              rintro e w8 ⟨rfl, f8⟩
              have F8 := Lib.hid (F7.out.trans f8); clear f8
              go_wp2_with fail
              go_ret
              exact ⟨by rw [hb2]; simp, F5.out.trans F8.out⟩
          · have hgd : (gives == sx) = false := by simpa using hg
            have hgd2 : decide (gives = sx) = false := by simpa using hg
            rw [hgd2]
            clear hg hgd2 hN hB hcl
            go_enter Tryz.func62, Tryz.ntmps62
            go_wp2_with fail
            rw [← HW.out]
            go_quiet (first | (go_at_call 78; refine Calls.quiet_of_same (CC.out _)))
            go_wp2_with fail
            go_ret
            exact ⟨by simp, F5.out.trans (Fr.drewN _ _ _)⟩
        | false =>
          rw [hb] at CC
          go_enter Tryz.func62, Tryz.ntmps62
          go_wp2_with fail
          rw [← HW.out]
          go_quiet (first | (go_at_call 78; refine Calls.quiet_of_same (CC.out _)))
          go_wp2_with fail
          go_ret
          exact ⟨by simp, F5.out.trans (Fr.drewN _ _ _)⟩
      · have hfd : (fx == -1) = false := by simpa using hf
        have hfn : (fx != -1) = true := by simpa using hf
        have hfd2 : decide (fx = -1) = false := by simpa using hf
        rw [hfd2]
        clear hf hfd2
        go_enter Tryz.func62, Tryz.ntmps62
        go_wp2_with fail
        rw [← HW.out]
        go_quiet (fail)
        go_wp2_with fail
        go_ret
        exact ⟨by simp, F5.out.trans (Fr.drewN _ _ _)⟩
  | false =>
    have er : rightB J.c J.fs J.cs ⟨sx, false, fx, cx⟩ l = (decide (fx = -1) && decide (cx = -1) && !J.fs.any (fun i => decide ((J.c.fa i).says = sx)) && !J.cs.any (fun i => decide ((J.c.cl i).gives = sx) && !barredB J.c l i)) := by simp [rightB]
    rw [er]
    clear er
    have C5 := Lib.hid (cf_right5 W5 RE.out)
    have C6 : Hid (∀ W, Fr [] W5 W → Calls Tryz.prog 58 #[J.v2, .func (.func 82) #[] #[.pointer (some ⟨w.heap.size, 0, none⟩), .pointer (some ⟨w.heap.size + 1, 0, none⟩), .pointer (some ⟨w.heap.size + 1 + 1 + 1 + 1, 0, none⟩)]] W fun e w' => e = .returned (.bool (J.cs.any fun i => decide ((J.c.cl i).gives = sx) && !barredB J.c l i)) ∧ Fr [] W w') := Lib.hid fun W hf => cf_right6 W (RE.out.same hf)
    simp only at C5
    have q3e := q3
    rw [HW.out] at q3e C5
    by_cases hfc : fx = -1 ∧ cx = -1
    · obtain ⟨rfl, rfl⟩ := hfc
      cases hb : J.fs.any (fun i => decide ((J.c.fa i).says = sx)) with
      | true =>
        rw [hb] at C5
        go_enter Tryz.func62, Tryz.ntmps62
        go_wp2_with (first | (go_at_call 58; refine C5.out.mono ?_; rintro e w1 ⟨rfl, f1⟩; rw [← HW.out] at f1; have F1 := Lib.hid f1; clear f1))
        go_ret
        exact ⟨by simp, F5.out.trans F1.out⟩
      | false =>
        rw [hb] at C5
        go_enter Tryz.func62, Tryz.ntmps62
        go_wp2_with fail
        refine C5.out.mono ?_
        rintro e w1 ⟨rfl, f1⟩
        rw [← HW.out] at f1
        have R1 := RE.out.same f1
        have c31 : w1.cell? ⟨w.heap.size, 0, none⟩ = some (.pointer (some ⟨J.bj, 0, none⟩)) := cell_of_blk R1.h3 0
        have q41 : w1.cell? ⟨J.bj, 4, none⟩ = some J.v2 := cell_of_blk R1.js.str 4
        have F1 := Lib.hid f1
        clear f1 R1
        go_wp2_with (first | (go_at_call 58; refine (C6.out w1 F1.out).mono ?_; rintro e w2 ⟨rfl, f2⟩; have F2 := Lib.hid f2; clear f2))
        go_ret
        exact ⟨by simp, (F5.out.trans F1.out).trans F2.out⟩
    · have hz : (decide (fx = -1) && decide (cx = -1)) = false := by
        cases h1 : decide (fx = -1) with
        | false => rfl
        | true =>
          cases h2 : decide (cx = -1) with
          | false => rfl
          | true => exact absurd ⟨by simpa using h1, by simpa using h2⟩ hfc
      rw [hz]
      clear hz
      go_enter Tryz.func62, Tryz.ntmps62
      go_wp2_with fail
      all_goals
        go_ret
        exact ⟨by simp, ((((Fr.alloc _ _ _).trans (Fr.alloc _ _ _)).trans (Fr.alloc _ _ _)).trans (Fr.alloc _ _ _)).trans (Fr.alloc _ _ _)⟩

end Go.Proofs.YtfidioedjmjddaaGreat
