/-
  statute: the predicates of isRight, third part.
-/
import Derived.Test.YtahfpadaoobkfaaGreatDoorQS15
import Derived.Laws.EntriesVeiled
import Derived.Test.YtahfpadaoobkfaaGreatDoorQS01
namespace Go.Proofs.YtahfpadaoobkfaaGreatDoor
open Go.RowKit Go.Lib Go.Maps

set_option maxRecDepth 100000 in
set_option maxHeartbeats 2000000 in
theorem right5_c {J : Jn} {B3 B4 B5 B7 B8 : Nat} {x : Fd} {vl : Value} {l : List Fd} (i : Int) (w : World) (h : REnv J B3 B4 B5 B7 B8 x vl l w) (hi : i ∈ J.fs) :
    Calls Tryz.prog 160 #[.int .i64 i, .pointer (some ⟨B3, 0, none⟩), .pointer (some ⟨B4, 0, none⟩)] w fun e w' => e = .returned (.bool (decide ((J.c.fa i).says = x.says))) ∧ Fr [] w w' := by
  have hsub := h.js.fsub i hi
  obtain ⟨ii, rfl⟩ := Int.eq_ofNat_of_zero_le hsub.1
  have hil : ii < J.c.fas.length := by omega
  have hfa : J.c.fa ii = J.c.fas[ii] := by simp [Rb.fa, hil]
  rw [hfa]
  obtain ⟨af, pf, hvf⟩ := h.js.rb.fas.val
  have hsl := h.js.rb.fas
  rw [hvf] at hsl
  obtain ⟨b2, o2, h2, hc2⟩ := hsl.at_ (by omega)
  subst h2
  have e1 := hc2 (ii * 6 + 1) _ ((flat_get (enc := faC) (k := 6) (fun _ => rfl) J.c.fas ii hil 1 (by omega)).trans rfl)
  simp only [← Nat.add_assoc] at e1
  have c3 : w.cell? ⟨B3, 0, none⟩ = some (.pointer (some ⟨J.bj, 0, none⟩)) := cell_of_blk h.h3 0
  have c4 : w.cell? ⟨B4, 0, none⟩ = some (.int .i64 x.says) := cell_of_blk h.h4 0
  have q2 : w.cell? ⟨J.bj, 2, none⟩ = some (.slice (some ⟨b2, o2, none⟩) J.c.fas.length pf) := by rw [← hvf]; exact cell_of_blk h.js.str 2
  have hfl := h.js.rb.fas.len
  have hix : (ii : Int) < (J.c.fas.length : Int) := by omega
  clear hc2 hsl hfa hsub h
  generalize (J.c.fas[ii]).says = sy at *
  generalize x.says = sx at *
  go_enter Tryz.func160, Tryz.ntmps160
  go_wp2_with fail
  go_quiet (fail)
  go_wp2_with fail
  go_ret
  refine ⟨?_, Fr.drewN _ _ _⟩
  by_cases h : sy = sx <;> simp [h]

set_option maxRecDepth 100000 in
set_option maxHeartbeats 2000000 in
theorem right6_c {J : Jn} {B3 B4 B5 B7 B8 : Nat} {x : Fd} {vl : Value} {l : List Fd} (i : Int) (w : World) (h : REnv J B3 B4 B5 B7 B8 x vl l w) (hi : i ∈ J.cs) :
    Calls Tryz.prog 161 #[.int .i64 i, .pointer (some ⟨B3, 0, none⟩), .pointer (some ⟨B4, 0, none⟩), .pointer (some ⟨B8, 0, none⟩)] w fun e w' => e = .returned (.bool (decide ((J.c.cl i).gives = x.says) && !barredB J.c l i)) ∧ Fr [] w w' := by
  have hsub := h.js.csub i hi
  obtain ⟨ii, rfl⟩ := Int.eq_ofNat_of_zero_le hsub.1
  have hil : ii < J.ys.length := by omega
  have heq : J.c.cls = J.ys.map (·.x) := h.js.rb.eq
  have hcl : J.c.cl ii = J.ys[ii].x := by simp [Rb.cl, heq, hil]
  have CB := Lib.hid (right2_c ii w.drew (h.same (Fr.drew _ _)) hi)
  rw [hcl]
  obtain ⟨ac, pc, hvc⟩ := h.js.rb.cls.sl.val
  have hsl := h.js.rb.cls.sl
  rw [hvc] at hsl
  obtain ⟨b2, o2, h2, hc2⟩ := hsl.at_ (by omega)
  subst h2
  have d5 := hc2 (ii * 6 + 5) _ ((flat_get (enc := clC) (k := 6) (fun _ => rfl) J.ys ii hil 5 (by omega)).trans rfl)
  simp only [← Nat.add_assoc] at d5
  have c3 : w.cell? ⟨B3, 0, none⟩ = some (.pointer (some ⟨J.bj, 0, none⟩)) := cell_of_blk h.h3 0
  have c4 : w.cell? ⟨B4, 0, none⟩ = some (.int .i64 x.says) := cell_of_blk h.h4 0
  have c8 : w.cell? ⟨B8, 0, none⟩ = some (.func (.func 154) #[] #[.pointer (some ⟨B3, 0, none⟩), .pointer (some ⟨B7, 0, none⟩)]) := cell_of_blk h.h8 0
  have q0 : w.cell? ⟨J.bj, 0, none⟩ = some (.slice (some ⟨b2, o2, none⟩) J.ys.length pc) := by rw [← hvc]; exact cell_of_blk h.js.str 0
  have hyl := h.js.rb.cls.sl.len
  have hix : (ii : Int) < (J.ys.length : Int) := by omega
  have H3 := Lib.hid h.h3; have H4 := Lib.hid h.h4; have H8 := Lib.hid h.h8; have HJ := Lib.hid h.js.str
  have DC : Hid (∀ W : World, Fr [] w W → W.cell? ⟨b2, o2 + ii * 6 + 5, none⟩ = some (.int .i64 (J.ys[ii].x).gives)) := Lib.hid fun W hf => (World.cell?_of_block (hf.block b2 (World.block_lt_of_cell? w _ d5) (by simp))).trans d5
  clear hc2 hsl hcl hsub h heq
  generalize (J.ys[ii].x).gives = sy at *
  generalize x.says = sx at *
  generalize barredB J.c l ii = bb at *
  by_cases hg : sy = sx
  · subst hg
    have S0 : w.drew.cell? ⟨B3, 0, none⟩ = some (.pointer (some ⟨J.bj, 0, none⟩)) ∧ w.drew.cell? ⟨B4, 0, none⟩ = some (.int .i64 sy) ∧ w.drew.cell? ⟨B8, 0, none⟩ = some (.func (.func 154) #[] #[.pointer (some ⟨B3, 0, none⟩), .pointer (some ⟨B7, 0, none⟩)]) ∧ w.drew.cell? ⟨J.bj, 0, none⟩ = some (.slice (some ⟨b2, o2, none⟩) J.ys.length pc) ∧ w.drew.cell? ⟨b2, o2 + ii * 6 + 5, none⟩ = some (.int .i64 sy) := ⟨c3, c4, c8, q0, d5⟩
    go_enter Tryz.func161, Tryz.ntmps161
    go_wp2_with fail
    go_region_held3 (fun W : World => W.cell? ⟨B3, 0, none⟩ = some (.pointer (some ⟨J.bj, 0, none⟩)) ∧ W.cell? ⟨B4, 0, none⟩ = some (.int .i64 sy) ∧ W.cell? ⟨B8, 0, none⟩ = some (.func (.func 154) #[] #[.pointer (some ⟨B3, 0, none⟩), .pointer (some ⟨B7, 0, none⟩)]) ∧ W.cell? ⟨J.bj, 0, none⟩ = some (.slice (some ⟨b2, o2, none⟩) J.ys.length pc) ∧ W.cell? ⟨b2, o2 + ii * 6 + 5, none⟩ = some (.int .i64 sy)) (first | exact S0 | assumption) (first | (go_at_call 154; refine CB.out.mono ?_; rintro e w1 ⟨rfl, f1⟩; have F1 := Lib.hid ((Fr.drew [] w).trans f1); have S1 : w1.cell? ⟨B3, 0, none⟩ = some (.pointer (some ⟨J.bj, 0, none⟩)) ∧ w1.cell? ⟨B4, 0, none⟩ = some (.int .i64 sy) ∧ w1.cell? ⟨B8, 0, none⟩ = some (.func (.func 154) #[] #[.pointer (some ⟨B3, 0, none⟩), .pointer (some ⟨B7, 0, none⟩)]) ∧ w1.cell? ⟨J.bj, 0, none⟩ = some (.slice (some ⟨b2, o2, none⟩) J.ys.length pc) ∧ w1.cell? ⟨b2, o2 + ii * 6 + 5, none⟩ = some (.int .i64 sy) := ⟨cell_of_blk (F1.out.keep H3.out (by simp)) 0, cell_of_blk (F1.out.keep H4.out (by simp)) 0, cell_of_blk (F1.out.keep H8.out (by simp)) 0, by rw [← hvc]; exact cell_of_blk (F1.out.keep HJ.out (by simp)) 0, DC.out w1 F1.out⟩; clear f1))
    go_wp2_with fail
    go_ret
    exact ⟨by simp, F1.out⟩
  · have hgd : (sy == sx) = false := by simpa using hg
    have e : decide (sy = sx) = false := by simpa using hg
    rw [e]
    clear hg e
    go_enter Tryz.func161, Tryz.ntmps161
    go_wp2_with fail
    go_quiet (fail)
    go_wp2_with fail
    go_ret
    exact ⟨by simp, Fr.drewN _ _ _⟩

set_option maxRecDepth 100000 in
theorem cf_right5 {J : Jn} {B3 B4 B5 B7 B8 : Nat} {x : Fd} {vl : Value} {l : List Fd} (w : World) (h : REnv J B3 B4 B5 B7 B8 x vl l w) :
    Calls Tryz.prog 43 #[J.v1, .func (.func 160) #[] #[.pointer (some ⟨B3, 0, none⟩), .pointer (some ⟨B4, 0, none⟩)]] w fun e w' => e = .returned (.bool (J.fs.any fun i => decide ((J.c.fa i).says = x.says))) ∧ Fr [] w w' := by
  obtain ⟨a, cap, hv⟩ := h.js.f.val
  have hz := h.js.f
  rw [hv] at hz
  rw [hv]
  refine (cfInt_c 160 #[.pointer (some ⟨B3, 0, none⟩), .pointer (some ⟨B4, 0, none⟩)] (fun _ _ => rfl) a cap J.fs (fun k => decide ((J.c.fa (J.fs.getD k 0)).says = x.says)) (fun _ W => Fr [] w W) w (fun k W hJ => hz.same hJ) ?_ (Fr.refl _ _)).mono ?_
  · intro k W hk _ hJ
    refine (right5_c (J.fs.getD k 0) W (h.same hJ) (by simp [hk])).mono ?_
    rintro e w' ⟨rfl, f⟩
    exact ⟨rfl, hJ.trans f⟩
  · rintro e w' ⟨rfl, k, hJ⟩
    exact ⟨by rw [anyN_list J.fs (fun i => decide ((J.c.fa i).says = x.says)) 0], hJ⟩
set_option maxRecDepth 100000 in
theorem cf_right6 {J : Jn} {B3 B4 B5 B7 B8 : Nat} {x : Fd} {vl : Value} {l : List Fd} (w : World) (h : REnv J B3 B4 B5 B7 B8 x vl l w) :
    Calls Tryz.prog 43 #[J.v2, .func (.func 161) #[] #[.pointer (some ⟨B3, 0, none⟩), .pointer (some ⟨B4, 0, none⟩), .pointer (some ⟨B8, 0, none⟩)]] w fun e w' => e = .returned (.bool (J.cs.any fun i => decide ((J.c.cl i).gives = x.says) && !barredB J.c l i)) ∧ Fr [] w w' := by
  obtain ⟨a, cap, hv⟩ := h.js.c.val
  have hz := h.js.c
  rw [hv] at hz
  rw [hv]
  refine (cfInt_c 161 #[.pointer (some ⟨B3, 0, none⟩), .pointer (some ⟨B4, 0, none⟩), .pointer (some ⟨B8, 0, none⟩)] (fun _ _ => rfl) a cap J.cs (fun k => decide ((J.c.cl (J.cs.getD k 0)).gives = x.says) && !barredB J.c l (J.cs.getD k 0)) (fun _ W => Fr [] w W) w (fun k W hJ => hz.same hJ) ?_ (Fr.refl _ _)).mono ?_
  · intro k W hk _ hJ
    refine (right6_c (J.cs.getD k 0) W (h.same hJ) (by simp [hk])).mono ?_
    rintro e w' ⟨rfl, f⟩
    exact ⟨rfl, hJ.trans f⟩
  · rintro e w' ⟨rfl, k, hJ⟩
    exact ⟨by rw [anyN_list J.cs (fun i => decide ((J.c.cl i).gives = x.says) && !barredB J.c l i) 0], hJ⟩

end Go.Proofs.YtahfpadaoobkfaaGreatDoor

/-
  statute: isRight.
-/
namespace Go.Proofs.YtahfpadaoobkfaaGreatDoor
open Go.RowKit Go.Lib Go.Maps

theorem alloc5' (w : World) (a b c d e : Obj) :
    let W := ((((w.alloc a).alloc b).alloc c).alloc d).alloc e
    W.heap[w.heap.size]? = some a ∧ W.heap[w.heap.size + 1]? = some b ∧ W.heap[w.heap.size + 1 + 1]? = some c ∧ W.heap[w.heap.size + 1 + 1 + 1]? = some d ∧ W.heap[w.heap.size + 1 + 1 + 1 + 1]? = some e := by
  have h := alloc3' w a b c
  have s3 : (((w.alloc a).alloc b).alloc c).heap.size = w.heap.size + 1 + 1 + 1 := by simp
  have h2 := alloc2' (((w.alloc a).alloc b).alloc c) d e
  rw [s3] at h2
  exact ⟨heap_alloc_old _ (heap_alloc_old _ h.1), heap_alloc_old _ (heap_alloc_old _ h.2.1), heap_alloc_old _ (heap_alloc_old _ h.2.2), h2.1, h2.2⟩

/-- A clause that applies, in memory. -/
theorem JS.clause {J : Jn} {w : World} (h : JS J w) {i : Int} (hi : i ∈ J.cs) : ∃ (ii b o pc : Nat) (pub f t gives : Int) (needs bars : List Int) (an ab : Option Addr) (pn pb : Nat), i = ii ∧ ii < J.ys.length ∧ J.ys.length ≤ 9223372036854775807 ∧ J.vc = .slice (some ⟨b, o, none⟩) J.ys.length pc ∧ J.c.cl i = ⟨pub, f, t, needs, bars, gives⟩ ∧
    w.cell? ⟨b, o + ii * 6, none⟩ = some (.int .i64 pub) ∧ w.cell? ⟨b, o + ii * 6 + 1, none⟩ = some (.int .i64 f) ∧ w.cell? ⟨b, o + ii * 6 + 2, none⟩ = some (.int .i64 t) ∧ w.cell? ⟨b, o + ii * 6 + 3, none⟩ = some (.slice an needs.length pn) ∧ w.cell? ⟨b, o + ii * 6 + 4, none⟩ = some (.slice ab bars.length pb) ∧ w.cell? ⟨b, o + ii * 6 + 5, none⟩ = some (.int .i64 gives) ∧
    IntsAt w (.slice an needs.length pn) needs ∧ IntsAt w (.slice ab bars.length pb) bars := by
  have hsub := h.csub i hi
  obtain ⟨ii, rfl⟩ := Int.eq_ofNat_of_zero_le hsub.1
  have hil : ii < J.ys.length := by omega
  have heq : J.c.cls = J.ys.map (·.x) := h.rb.eq
  have hcl : J.c.cl ii = J.ys[ii].x := by simp [Rb.cl, heq, hil]
  obtain ⟨ac, pc, hvc⟩ := h.rb.cls.sl.val
  have hsl := h.rb.cls.sl
  rw [hvc] at hsl
  obtain ⟨b2, o2, h2, hc2⟩ := hsl.at_ (by omega)
  subst h2
  have d0 := hc2 (ii * 6 + 0) _ ((flat_get (enc := clC) (k := 6) (fun _ => rfl) J.ys ii hil 0 (by omega)).trans rfl)
  have d1 := hc2 (ii * 6 + 1) _ ((flat_get (enc := clC) (k := 6) (fun _ => rfl) J.ys ii hil 1 (by omega)).trans rfl)
  have d2 := hc2 (ii * 6 + 2) _ ((flat_get (enc := clC) (k := 6) (fun _ => rfl) J.ys ii hil 2 (by omega)).trans rfl)
  have d3 := hc2 (ii * 6 + 3) _ ((flat_get (enc := clC) (k := 6) (fun _ => rfl) J.ys ii hil 3 (by omega)).trans rfl)
  have d4 := hc2 (ii * 6 + 4) _ ((flat_get (enc := clC) (k := 6) (fun _ => rfl) J.ys ii hil 4 (by omega)).trans rfl)
  have d5 := hc2 (ii * 6 + 5) _ ((flat_get (enc := clC) (k := 6) (fun _ => rfl) J.ys ii hil 5 (by omega)).trans rfl)
  simp only [Nat.add_zero, ← Nat.add_assoc] at d0 d1 d2 d3 d4 d5
  have hN := h.rb.cls.needs J.ys[ii] (List.getElem_mem hil)
  have hB := h.rb.cls.bars J.ys[ii] (List.getElem_mem hil)
  obtain ⟨an, pn, hvn⟩ := hN.val
  obtain ⟨ab, pb, hvb⟩ := hB.val
  have hyl := h.rb.cls.sl.len
  rw [hcl]
  generalize J.ys[ii] = y at *
  obtain ⟨⟨pub, f, t, needs, bars, gives⟩, vn, vb⟩ := y
  simp only at d0 d1 d2 d3 d4 d5 hvn hvb hN hB
  subst hvn hvb
  exact ⟨ii, b2, o2, pc, pub, f, t, gives, needs, bars, an, ab, pn, pb, rfl, hil, hyl, hvc, rfl, d0, d1, d2, d3, d4, d5, hN, hB⟩
/-- What a fact that applies says, in memory. -/
theorem JS.fact {J : Jn} {w : World} (h : JS J w) {i : Int} (hi : i ∈ J.fs) : ∃ (ii b o pf : Nat), i = ii ∧ ii < J.c.fas.length ∧ J.c.fas.length ≤ 9223372036854775807 ∧ J.vf = .slice (some ⟨b, o, none⟩) J.c.fas.length pf ∧ w.cell? ⟨b, o + ii * 6 + 1, none⟩ = some (.int .i64 (J.c.fa i).says) := by
  have hsub := h.fsub i hi
  obtain ⟨ii, rfl⟩ := Int.eq_ofNat_of_zero_le hsub.1
  have hil : ii < J.c.fas.length := by omega
  have hfa : J.c.fa ii = J.c.fas[ii] := by simp [Rb.fa, hil]
  obtain ⟨af, pf, hvf⟩ := h.rb.fas.val
  have hsl := h.rb.fas
  rw [hvf] at hsl
  obtain ⟨b2, o2, h2, hc2⟩ := hsl.at_ (by omega)
  subst h2
  have e1 := hc2 (ii * 6 + 1) _ ((flat_get (enc := faC) (k := 6) (fun _ => rfl) J.c.fas ii hil 1 (by omega)).trans rfl)
  simp only [← Nat.add_assoc] at e1
  exact ⟨ii, b2, o2, pf, rfl, hil, h.rb.fas.len, hvf, by rw [hfa]; exact e1⟩

set_option maxRecDepth 100000 in
set_option maxHeartbeats 8000000 in
theorem right_c (J : Jn) (x : Fd) (vl : Value) (l : List Fd) (w : World) (hJ : JS J w) (hs : Sl w vl l.length (l.flatMap fdC)) :
    Calls Tryz.prog 127 #[.pointer (some ⟨J.bj, 0, none⟩), fdV x, vl] w fun e w' => e = .returned (.bool (rightB J.c J.fs J.cs x l)) ∧ Fr [] w w' := by
  obtain ⟨a, cap, rfl⟩ := hs.val
  have hE : ∃ W5, W5 = ((((w.alloc (.cells #[.pointer (some ⟨J.bj, 0, none⟩)] 188)).alloc (.cells #[.int .i64 x.says, .bool x.holds, .int .i64 x.fact, .int .i64 x.cl] 98)).alloc (.cells #[.slice a l.length cap] 96)).alloc (.cells #[.func (.func 151) #[] #[.pointer (some ⟨w.heap.size + 1 + 1, 0, none⟩)]] 250)).alloc (.cells #[.func (.func 154) #[] #[.pointer (some ⟨w.heap.size, 0, none⟩), .pointer (some ⟨w.heap.size + 1 + 1 + 1, 0, none⟩)]] 116) := ⟨_, rfl⟩
  obtain ⟨W5, hW5⟩ := hE
  have f5 : Fr [] w W5 := by rw [hW5]; exact ((((Fr.alloc _ _ _).trans (Fr.alloc _ _ _)).trans (Fr.alloc _ _ _)).trans (Fr.alloc _ _ _)).trans (Fr.alloc _ _ _)
  have A5 := alloc5' w (.cells #[.pointer (some ⟨J.bj, 0, none⟩)] 188) (.cells #[.int .i64 x.says, .bool x.holds, .int .i64 x.fact, .int .i64 x.cl] 98) (.cells #[.slice a l.length cap] 96) (.cells #[.func (.func 151) #[] #[.pointer (some ⟨w.heap.size + 1 + 1, 0, none⟩)]] 250) (.cells #[.func (.func 154) #[] #[.pointer (some ⟨w.heap.size, 0, none⟩), .pointer (some ⟨w.heap.size + 1 + 1 + 1, 0, none⟩)]] 116)
  simp only [← hW5] at A5
  have RE : Hid (REnv J w.heap.size (w.heap.size + 1) (w.heap.size + 1 + 1) (w.heap.size + 1 + 1 + 1) (w.heap.size + 1 + 1 + 1 + 1) x (.slice a l.length cap) l W5) := Lib.hid ⟨A5.1, A5.2.1, A5.2.2.1, A5.2.2.2.1, A5.2.2.2.2, hJ.same f5, hs.same f5⟩
  have F5 := Lib.hid f5; have HW := Lib.hid hW5
  clear hW5 f5 A5 hJ hs
  have c3 : W5.cell? ⟨w.heap.size, 0, none⟩ = some (.pointer (some ⟨J.bj, 0, none⟩)) := cell_of_blk RE.out.h3 0
  have x0 : W5.cell? ⟨w.heap.size + 1, 0, none⟩ = some (.int .i64 x.says) := cell_of_blk RE.out.h4 0
  have x2 : W5.cell? ⟨w.heap.size + 1, 2, none⟩ = some (.int .i64 x.fact) := cell_of_blk RE.out.h4 2
  have x3 : W5.cell? ⟨w.heap.size + 1, 3, none⟩ = some (.int .i64 x.cl) := cell_of_blk RE.out.h4 3
  have q0 : W5.cell? ⟨J.bj, 0, none⟩ = some J.vc := cell_of_blk RE.out.js.str 0
  have q2 : W5.cell? ⟨J.bj, 2, none⟩ = some J.vf := cell_of_blk RE.out.js.str 2
  have q3 : W5.cell? ⟨J.bj, 3, none⟩ = some J.v1 := cell_of_blk RE.out.js.str 3
  have q4 : W5.cell? ⟨J.bj, 4, none⟩ = some J.v2 := cell_of_blk RE.out.js.str 4
  obtain ⟨sx, hx, fx, cx⟩ := x
  simp only at x0 x2 x3 HW
  unfold fdV
  simp only
  cases hx with
  | true =>
    by_cases hc : cx = -1
    · subst hc
      have er : rightB J.c J.fs J.cs ⟨sx, true, fx, -1⟩ l = (J.fs.contains fx && decide ((J.c.fa fx).says = sx)) := by simp [rightB]
      rw [er]
      clear er
      have CC : Hid (∀ n, Calls Tryz.prog 157 #[J.v1, .int .i64 fx] (W5.drewN n) fun e w' => e = .returned (.bool (J.fs.contains fx)) ∧ w' = W5.drewN n) := Lib.hid fun n => (contInt_c J.v1 J.fs fx _ (RE.out.js.f.same (Fr.drewN _ _ _))).mono fun _ _ h => ⟨h.1, h.2.symm⟩
      cases hb : J.fs.contains fx with
      | true =>
        rw [hb] at CC
        obtain ⟨ii, b, o, pf, hfx, hil, hfl, hvf, e1⟩ := RE.out.js.fact (i := fx) (by simpa using hb)
        rw [hvf] at q2
        subst hfx
        have hix : (ii : Int) < (J.c.fas.length : Int) := by omega
        generalize (J.c.fa ii).says = sy at *
        go_enter Tryz.func127, Tryz.ntmps127
        go_wp2_with fail
        rw [← HW.out]
        go_quiet (first | (go_at_call 157; refine Calls.quiet_of_same (CC.out _)))
        go_wp2_with fail
        go_ret
        refine ⟨?_, F5.out.trans (Fr.drewN _ _ _)⟩
        by_cases h : sy = sx <;> simp [h]
      | false =>
        rw [hb] at CC
        go_enter Tryz.func127, Tryz.ntmps127
        go_wp2_with fail
        rw [← HW.out]
        go_quiet (first | (go_at_call 157; refine Calls.quiet_of_same (CC.out _)))
        go_wp2_with fail
        go_ret
        exact ⟨by simp, F5.out.trans (Fr.drewN _ _ _)⟩
    · have hcd : (cx == -1) = false := by simpa using hc
      have er : rightB J.c J.fs J.cs ⟨sx, true, fx, cx⟩ l = (decide (fx = -1) && J.cs.contains cx && decide ((J.c.cl cx).gives = sx) && (J.c.cl cx).needs.all (fun n => findsB l n true) && (J.c.cl cx).bars.all (fun n => findsB l n false)) := by simp [rightB, hc]
      rw [er]
      clear er hc
      by_cases hf : fx = -1
      · subst hf
        have CC : Hid (∀ n, Calls Tryz.prog 157 #[J.v2, .int .i64 cx] (W5.drewN n) fun e w' => e = .returned (.bool (J.cs.contains cx)) ∧ w' = W5.drewN n) := Lib.hid fun n => (contInt_c J.v2 J.cs cx _ (RE.out.js.c.same (Fr.drewN _ _ _))).mono fun _ _ h => ⟨h.1, h.2.symm⟩
        cases hb : J.cs.contains cx with
        | true =>
          rw [hb] at CC
          obtain ⟨ii, b, o, pc, pub, f, t, gives, needs, bars, an, ab, pn, pb, hcx, hil, hyl, hvc, hcl, d0, d1, d2, d3, d4, d5, hN, hB⟩ := RE.out.js.clause (i := cx) (by simpa using hb)
          rw [hvc] at q0
          rw [hcl]
          subst hcx
          have hix : (ii : Int) < (J.ys.length : Int) := by omega
          simp only
          by_cases hg : gives = sx
          · subst hg
            have HN := Lib.hid hN; have HB := Lib.hid hB
            have hs3 := blk_lt RE.out.h3
            have hs4 := blk_lt RE.out.h4
            have hsj := blk_lt RE.out.js.str
            have hsb := World.block_lt_of_cell? W5 _ d0
            simp only at hsb
            clear hN hB hcl
            go_enter Tryz.func127, Tryz.ntmps127
            go_wp2_with fail
            rw [← HW.out]
            go_quiet (first | (go_at_call 157; refine Calls.quiet_of_same (CC.out _)))
            go_wp2_with fail
            refine reg_mix (fun W : World => ∀ p : Addr, p.block < W5.heap.size → W.cell? p = W5.cell? p) [0, 1, 2, 3, 4, 5, 6, 7, 8, 9, 10] (by kernel_rfl) (by kernel_rfl) (by kernel_rfl) rfl (fun p _ => rfl) ?_
            iterate 9 (refine mix_take1 (v := ?_) rfl rfl rfl rfl (fun W hS => ?_) ?_; rotate_left; (focus (have e0 := (hS ⟨w.heap.size, 0, none⟩ hs3).trans c3; have e1 := (hS ⟨w.heap.size + 1, 3, none⟩ hs4).trans x3; have e2 := (hS ⟨J.bj, 0, none⟩ hsj).trans q0; have e3 := (hS ⟨b, o + ii * 6, none⟩ hsb).trans d0; have e4 := (hS ⟨b, o + ii * 6 + 1, none⟩ hsb).trans d1; have e5 := (hS ⟨b, o + ii * 6 + 2, none⟩ hsb).trans d2; have e6 := (hS ⟨b, o + ii * 6 + 3, none⟩ hsb).trans d3; have e7 := (hS ⟨b, o + ii * 6 + 4, none⟩ hsb).trans d4; have e8 := (hS ⟨b, o + ii * 6 + 5, none⟩ hsb).trans d5; clear hS; go_simp; rfl)); simp only [List.setIfInBounds_toArray, List.set_cons_succ, List.set_cons_zero])
            refine mix_do rfl rfl rfl (fun K hK => ?_)
            go_simp
            refine hK _ _ (fun p hp => World.cell?_of_block (Below.heap_alloc _ _ _ hp)) ?_
            clear hK K
            have KZ : ((W5.drewN (nq + 1)).alloc (.cells #[.int .i64 0, .int .i64 0, .int .i64 0, .slice none 0 0, .slice none 0 0, .int .i64 0] 105)).heap[W5.heap.size]? = some (.cells #[.int .i64 0, .int .i64 0, .int .i64 0, .slice none 0 0, .slice none 0 0, .int .i64 0] 105 (0, 0)) := heap_alloc_new (W5.drewN (nq + 1)) _
            have FZ : Fr [] W5 ((W5.drewN (nq + 1)).alloc (.cells #[.int .i64 0, .int .i64 0, .int .i64 0, .slice none 0 0, .slice none 0 0, .int .i64 0] 105)) := (Fr.drewN _ _ _).trans (Fr.alloc _ _ _)
            generalize (W5.drewN (nq + 1)).alloc (.cells #[.int .i64 0, .int .i64 0, .int .i64 0, .slice none 0 0, .slice none 0 0, .int .i64 0] 105) = Z at *
            have t0 : Z.cell? ⟨W5.heap.size, 0, none⟩ = some (.int .i64 0) := cell_of_blk KZ 0
            have t1 : Z.cell? ⟨W5.heap.size, 1, none⟩ = some (.int .i64 0) := cell_of_blk KZ 1
            have t2 : Z.cell? ⟨W5.heap.size, 2, none⟩ = some (.int .i64 0) := cell_of_blk KZ 2
            have t3 : Z.cell? ⟨W5.heap.size, 3, none⟩ = some (.slice none 0 0) := cell_of_blk KZ 3
            have t4 : Z.cell? ⟨W5.heap.size, 4, none⟩ = some (.slice none 0 0) := cell_of_blk KZ 4
            have t5 : Z.cell? ⟨W5.heap.size, 5, none⟩ = some (.int .i64 0) := cell_of_blk KZ 5
            have z0 := free_of_blk KZ 0
            have z1 := free_of_blk KZ 1
            have z2 := free_of_blk KZ 2
            have z3 := free_of_blk KZ 3
            have z4 := free_of_blk KZ 4
            have z5 := free_of_blk KZ 5
            have f6 : Fr [W5.heap.size] Z ((((((Z.setCell ⟨W5.heap.size, 0, none⟩ (.int .i64 pub)).setCell ⟨W5.heap.size, 1, none⟩ (.int .i64 f)).setCell ⟨W5.heap.size, 2, none⟩ (.int .i64 t)).setCell ⟨W5.heap.size, 3, none⟩ (.slice an needs.length pn)).setCell ⟨W5.heap.size, 4, none⟩ (.slice ab bars.length pb)).setCell ⟨W5.heap.size, 5, none⟩ (.int .i64 gives)) := (((((Fr.setCell _ _ (by simp)).trans (Fr.setCell _ _ (by simp))).trans (Fr.setCell _ _ (by simp))).trans (Fr.setCell _ _ (by simp))).trans (Fr.setCell _ _ (by simp))).trans (Fr.setCell _ _ (by simp))
            have F6 : Hid (Fr [] W5 ((((((Z.setCell ⟨W5.heap.size, 0, none⟩ (.int .i64 pub)).setCell ⟨W5.heap.size, 1, none⟩ (.int .i64 f)).setCell ⟨W5.heap.size, 2, none⟩ (.int .i64 t)).setCell ⟨W5.heap.size, 3, none⟩ (.slice an needs.length pn)).setCell ⟨W5.heap.size, 4, none⟩ (.slice ab bars.length pb)).setCell ⟨W5.heap.size, 5, none⟩ (.int .i64 gives))) := Lib.hid (FZ.step f6 (fun i hi => by simp at hi; exact .inr (by omega)))
            have KX : Hid (((((((Z.setCell ⟨W5.heap.size, 0, none⟩ (.int .i64 pub)).setCell ⟨W5.heap.size, 1, none⟩ (.int .i64 f)).setCell ⟨W5.heap.size, 2, none⟩ (.int .i64 t)).setCell ⟨W5.heap.size, 3, none⟩ (.slice an needs.length pn)).setCell ⟨W5.heap.size, 4, none⟩ (.slice ab bars.length pb)).setCell ⟨W5.heap.size, 5, none⟩ (.int .i64 gives)).heap[W5.heap.size]? = some (.cells #[.int .i64 pub, .int .i64 f, .int .i64 t, .slice an needs.length pn, .slice ab bars.length pb, .int .i64 gives] 105 (0, 0))) := Lib.hid (heap_setCell_same (i := 5) _ (heap_setCell_same (i := 4) _ (heap_setCell_same (i := 3) _ (heap_setCell_same (i := 2) _ (heap_setCell_same (i := 1) _ (heap_setCell_same (i := 0) _ KZ))))))
            refine mix_do rfl rfl rfl (fun K hK => ?_)
            go_simp
            refine hK _ _ (fun p hp => World.cell?_of_block (F6.out.block p.block hp (by simp))) ?_
            clear hK K
            refine mix_end ?_
            clear t0 t1 t2 t3 t4 t5 z0 z1 z2 z3 z4 z5 KZ FZ f6
            generalize (((((Z.setCell ⟨W5.heap.size, 0, none⟩ (.int .i64 pub)).setCell ⟨W5.heap.size, 1, none⟩ (.int .i64 f)).setCell ⟨W5.heap.size, 2, none⟩ (.int .i64 t)).setCell ⟨W5.heap.size, 3, none⟩ (.slice an needs.length pn)).setCell ⟨W5.heap.size, 4, none⟩ (.slice ab bars.length pb)).setCell ⟨W5.heap.size, 5, none⟩ (.int .i64 gives) = W6 at *
            have k3 : W6.cell? ⟨W5.heap.size, 3, none⟩ = some (.slice an needs.length pn) := cell_of_blk KX.out 3
            have CN := Lib.hid (cf_right3 _ needs W6 (RE.out.same F6.out) (HN.out.same F6.out))
            go_wp2_with fail
            refine CN.out.mono ?_
            rintro e w7 ⟨rfl, f7⟩
            have F7 := Lib.hid (F6.out.trans f7)
            have K7 := f7.keep KX.out (by simp)
            have k4 : w7.cell? ⟨W5.heap.size, 4, none⟩ = some (.slice ab bars.length pb) := cell_of_blk K7 4
            have CB := Lib.hid (cf_right4 _ bars w7 (RE.out.same F7.out) (HB.out.same F7.out))
            clear f7 K7
            rw [any_not] at CN CB
            have ea : (needs.any fun n => !findsB l n true) = !needs.all (fun n => findsB l n true) := any_not _ _
            cases hb2 : needs.all (fun n => findsB l n true)
            · rw [ea, hb2]
              clear ea
              go_wp2_with fail
              go_ret
              exact ⟨by rw [hb2]; simp, F5.out.trans F7.out⟩
            · rw [ea, hb2]
              clear ea
              go_wp2_with fail
              refine CB.out.mono ?_
              rintro e w8 ⟨rfl, f8⟩
              have F8 := Lib.hid (F7.out.trans f8); clear f8
              go_wp2_with fail
              go_ret
              exact ⟨by rw [hb2]; simp, F5.out.trans F8.out⟩
          · have hgd : (gives == sx) = false := by simpa using hg
            have hgd2 : decide (gives = sx) = false := by simpa using hg
            rw [hgd2]
            clear hg hgd2 hN hB hcl
            go_enter Tryz.func127, Tryz.ntmps127
            go_wp2_with fail
            rw [← HW.out]
            go_quiet (first | (go_at_call 157; refine Calls.quiet_of_same (CC.out _)))
            go_wp2_with fail
            go_ret
            exact ⟨by simp, F5.out.trans (Fr.drewN _ _ _)⟩
        | false =>
          rw [hb] at CC
          go_enter Tryz.func127, Tryz.ntmps127
          go_wp2_with fail
          rw [← HW.out]
          go_quiet (first | (go_at_call 157; refine Calls.quiet_of_same (CC.out _)))
          go_wp2_with fail
          go_ret
          exact ⟨by simp, F5.out.trans (Fr.drewN _ _ _)⟩
      · have hfd : (fx == -1) = false := by simpa using hf
        have hfn : (fx != -1) = true := by simpa using hf
        have hfd2 : decide (fx = -1) = false := by simpa using hf
        rw [hfd2]
        clear hf hfd2
        go_enter Tryz.func127, Tryz.ntmps127
        go_wp2_with fail
        rw [← HW.out]
        go_quiet (fail)
        go_wp2_with fail
        go_ret
        exact ⟨by simp, F5.out.trans (Fr.drewN _ _ _)⟩
  | false =>
    have er : rightB J.c J.fs J.cs ⟨sx, false, fx, cx⟩ l = (decide (fx = -1) && decide (cx = -1) && !J.fs.any (fun i => decide ((J.c.fa i).says = sx)) && !J.cs.any (fun i => decide ((J.c.cl i).gives = sx) && !barredB J.c l i)) := by simp [rightB]
    rw [er]
    clear er
    have C5 := Lib.hid (cf_right5 W5 RE.out)
    have C6 : Hid (∀ W, Fr [] W5 W → Calls Tryz.prog 43 #[J.v2, .func (.func 161) #[] #[.pointer (some ⟨w.heap.size, 0, none⟩), .pointer (some ⟨w.heap.size + 1, 0, none⟩), .pointer (some ⟨w.heap.size + 1 + 1 + 1 + 1, 0, none⟩)]] W fun e w' => e = .returned (.bool (J.cs.any fun i => decide ((J.c.cl i).gives = sx) && !barredB J.c l i)) ∧ Fr [] W w') := Lib.hid fun W hf => cf_right6 W (RE.out.same hf)
    simp only at C5
    have q3e := q3
    rw [HW.out] at q3e C5
    by_cases hfc : fx = -1 ∧ cx = -1
    · obtain ⟨rfl, rfl⟩ := hfc
      cases hb : J.fs.any (fun i => decide ((J.c.fa i).says = sx)) with
      | true =>
        rw [hb] at C5
        go_enter Tryz.func127, Tryz.ntmps127
        go_wp2_with (first | (go_at_call 43; refine C5.out.mono ?_; rintro e w1 ⟨rfl, f1⟩; rw [← HW.out] at f1; have F1 := Lib.hid f1; clear f1))
        go_ret
        exact ⟨by simp, F5.out.trans F1.out⟩
      | false =>
        rw [hb] at C5
        go_enter Tryz.func127, Tryz.ntmps127
        go_wp2_with fail
        refine C5.out.mono ?_
        rintro e w1 ⟨rfl, f1⟩
        rw [← HW.out] at f1
        have R1 := RE.out.same f1
        have c31 : w1.cell? ⟨w.heap.size, 0, none⟩ = some (.pointer (some ⟨J.bj, 0, none⟩)) := cell_of_blk R1.h3 0
        have q41 : w1.cell? ⟨J.bj, 4, none⟩ = some J.v2 := cell_of_blk R1.js.str 4
        have F1 := Lib.hid f1
        clear f1 R1
        go_wp2_with (first | (go_at_call 43; refine (C6.out w1 F1.out).mono ?_; rintro e w2 ⟨rfl, f2⟩; have F2 := Lib.hid f2; clear f2))
        go_ret
        exact ⟨by simp, (F5.out.trans F1.out).trans F2.out⟩
    · have hz : (decide (fx = -1) && decide (cx = -1)) = false := by
        cases h1 : decide (fx = -1) with
        | false => rfl
        | true =>
          cases h2 : decide (cx = -1) with
          | false => rfl
          | true => exact absurd ⟨by simpa using h1, by simpa using h2⟩ hfc
      rw [hz]
      clear hz
      go_enter Tryz.func127, Tryz.ntmps127
      go_wp2_with fail
      all_goals
        go_ret
        exact ⟨by simp, ((((Fr.alloc _ _ _).trans (Fr.alloc _ _ _)).trans (Fr.alloc _ _ _)).trans (Fr.alloc _ _ _)).trans (Fr.alloc _ _ _)⟩

end Go.Proofs.YtahfpadaoobkfaaGreatDoor

/-
  statute: proves.
-/
namespace Go.Proofs.YtahfpadaoobkfaaGreatDoor
open Go.RowKit Go.Lib Go.Maps

/-- The number of the last finding among the first k, or -1. -/
def lastTo (l : List Fd) (k : Nat) : Int := ((⟨-1, false, 0, 0⟩ : Fd) :: l).getD k default |>.says
theorem lastTo_succ (l : List Fd) (k : Nat) (h : k < l.length) : lastTo l (k + 1) = l[k].says := by simp [lastTo, h]
theorem lastTo_end (l : List Fd) : lastTo l l.length = lastOf l := by
  cases l with
  | nil => rfl
  | cons a l => simp [lastTo, lastOf, List.getLast?_eq_getElem?]
theorem holds_end (l : List Fd) (h : 0 < l.length) : (l.getLast?.map (·.holds)).getD false = (l[l.length - 1]).holds := by
  rw [List.getLast?_eq_getElem?, List.getElem?_eq_getElem (by omega)]
  rfl

set_option maxRecDepth 100000 in
set_option maxHeartbeats 8000000 in
theorem proves_c (J : Jn) (n : Int) (h : Bool) (vl : Value) (l : List Fd) (w : World) (hJ : JS J w) (hs : Sl w vl l.length (l.flatMap fdC)) :
    Calls Tryz.prog 95 #[.pointer (some ⟨J.bj, 0, none⟩), .int .i64 n, .bool h, vl] w fun e w' => e = .returned (.bool (provesB J.c J.fs J.cs n h l)) ∧ Fr [] w w' := by
  obtain ⟨a, cap, rfl⟩ := hs.val
  have hlen := hs.len
  have HJ := Lib.hid hJ; have HS := Lib.hid hs; clear hJ hs
  obtain ⟨r, hr⟩ : ∃ r, r = provesB J.c J.fs J.cs n h l := ⟨_, rfl⟩
  rw [← hr]
  have HR := Lib.hid hr; clear hr
  have HRf : Hid (provesGo J.c J.fs J.cs l (-1) l = false → r = false) := Lib.hid fun hf => by rw [HR.out, provesB, hf]; rfl
  go_enter Tryz.func95, Tryz.ntmps95
  go_wp2_with fail
  go_loopw [9, 14] (fun la i wr => ∃ k : Nat, k ≤ l.length ∧ i = .int .i64 k ∧ la = .int .i64 (lastTo l k) ∧ Hid (Fr [] w wr) ∧ Hid (provesGo J.c J.fs J.cs l (-1) l = provesGo J.c J.fs J.cs l (lastTo l k) (l.drop k)) ∧ Hid (-1 ≤ lastTo l k ∧ lastTo l k ≤ 19)) (fun _ i _ => l.length - (intOf i).toNat)
  case atStart => exact ⟨0, Nat.zero_le _, rfl, rfl, Lib.hid (Fr.refl _ _), Lib.hid rfl, Lib.hid ⟨by simp [lastTo], by simp [lastTo]⟩⟩
  case round =>
    obtain ⟨k, hk, rfl, rfl, HF, HG, HB⟩ := hrel
    by_cases hlt : k < l.length
    · obtain ⟨b, off, ha, hc⟩ := (HS.out.same HF.out).at_ (by omega)
      subst ha
      have d0 := hc (k * 4 + 0) _ ((flat_get (enc := fdC) (k := 4) (fun _ => rfl) l k hlt 0 (by omega)).trans rfl)
      have d1 := hc (k * 4 + 1) _ ((flat_get (enc := fdC) (k := 4) (fun _ => rfl) l k hlt 1 (by omega)).trans rfl)
      have d2 := hc (k * 4 + 2) _ ((flat_get (enc := fdC) (k := 4) (fun _ => rfl) l k hlt 2 (by omega)).trans rfl)
      have d3 := hc (k * 4 + 3) _ ((flat_get (enc := fdC) (k := 4) (fun _ => rfl) l k hlt 3 (by omega)).trans rfl)
      simp only [Nat.add_zero, ← Nat.add_assoc] at d0 d1 d2 d3
      have hst : provesGo J.c J.fs J.cs l (lastTo l k) (l.drop k) = (isInB l[k].says (lastTo l k + 1) 19 && rightB J.c J.fs J.cs l[k] l && provesGo J.c J.fs J.cs l l[k].says (l.drop (k + 1))) := by
        rw [List.drop_eq_getElem_cons hlt]; rfl
      have hls := lastTo_succ l k hlt
      have CR : Hid (∀ W, Fr [] w W → Calls Tryz.prog 127 #[.pointer (some ⟨J.bj, 0, none⟩), fdV l[k], .slice (some ⟨b, off, none⟩) l.length cap] W fun e w' => e = .returned (.bool (rightB J.c J.fs J.cs l[k] l)) ∧ Fr [] W w') := Lib.hid fun W hf => right_c J l[k] _ l W (HJ.out.same hf) (HS.out.same hf)
      have HST := Lib.hid hst; have HLS := Lib.hid hls
      clear hst hls hc
      generalize l[k] = x at *
      generalize hla : lastTo l k = la at *
      have hb1 := HB.out.1
      have hb2 := HB.out.2
      clear hla
      obtain ⟨x0, x1, x2, x3⟩ := x
      simp only [fdV] at d0 d1 d2 d3 CR HST HLS
      have FA := Lib.hid (HF.out.trans (Fr.alloc [] wr (.cells #[.int .i64 x0, .bool x1, .int .i64 x2, .int .i64 x3] 98)))
      go_wp2_with fail
      refine (isIn_c _ _ _ _).mono ?_
      rintro e w1 ⟨rfl, rfl⟩
      cases hi : isInB x0 (la + 1) 19
      · have hf : r = false := HRf.out (by rw [HG.out, HST.out, hi]; rfl)
        go_wp2_with fail
        go_ret
        exact ⟨by rw [hf]; rfl, FA.out⟩
      · have hxb := isInB_iff.1 hi
        go_wp2_with fail
        refine (CR.out _ FA.out).mono ?_
        rintro e w2 ⟨rfl, f2⟩
        have K2 := f2.keep (heap_alloc_new wr (.cells #[.int .i64 x0, .bool x1, .int .i64 x2, .int .i64 x3] 98)) (by simp)
        have k0 : w2.cell? ⟨wr.heap.size, 0, none⟩ = some (.int .i64 x0) := cell_of_blk K2 0
        have F2 := Lib.hid (FA.out.trans f2)
        clear f2 K2
        cases hrt : rightB J.c J.fs J.cs ⟨x0, x1, x2, x3⟩ l
        · have hf : r = false := HRf.out (by rw [HG.out, HST.out, hi, hrt]; rfl)
          go_wp2_with fail
          go_ret
          exact ⟨by rw [hf]; rfl, F2.out⟩
        · have HG2 : Hid (provesGo J.c J.fs J.cs l (-1) l = provesGo J.c J.fs J.cs l x0 (l.drop (k + 1))) := Lib.hid (by rw [HG.out, HST.out, hi, hrt]; rfl)
          clear hi hrt
          go_wp2_with fail
          go_roundw
          case rel => exact ⟨k + 1, by omega, by go_num, by rw [HLS.out], F2, Lib.hid (by rw [HLS.out]; exact HG2.out), Lib.hid (by rw [HLS.out]; omega)⟩
          case measure => simp [intOf]; omega
    · obtain rfl : k = l.length := by omega
      have hg1 : provesGo J.c J.fs J.cs l (-1) l = true := by rw [HG.out, List.drop_length]; rfl
      have hr := HR.out
      rw [provesB, hg1, Bool.true_and] at hr
      by_cases h0 : 0 < l.length
      · have hne : decide (l ≠ []) = true := by
          cases l with
          | nil => simp at h0
          | cons a l => simp
        rw [hne, Bool.true_and, holds_end l h0, ← lastTo_end] at hr
        obtain ⟨b, off, ha, hc⟩ := (HS.out.same HF.out).at_ h0
        subst ha
        have d1 := hc ((l.length - 1) * 4 + 1) _ ((flat_get (enc := fdC) (k := 4) (fun _ => rfl) l (l.length - 1) (by omega) 1 (by omega)).trans rfl)
        simp only [← Nat.add_assoc] at d1
        have HRR := Lib.hid hr
        clear hr hg1 hc hne
        generalize (l[l.length - 1]).holds = hh at *
        generalize lastTo l l.length = la at *
        have hi1 : ((l.length : Int) - 1).toNat = l.length - 1 := by omega
        have hge : (0 : Int) ≤ (l.length : Int) - 1 := by omega
        by_cases hla : la = n
        · subst hla
          go_wp2_with fail
          go_ret
          exact ⟨by rw [HRR.out]; simp, HF.out⟩
        · go_wp2_with fail
          go_ret
          exact ⟨by rw [HRR.out]; simp [hla], HF.out⟩
      · have hl0 : l = [] := List.eq_nil_of_length_eq_zero (by omega)
        have hf : r = false := by rw [hr, hl0]; rfl
        have hz : l.length = 0 := by omega
        clear hr
        go_wp2_with fail
        go_ret
        exact ⟨by rw [hf]; rfl, HF.out⟩

end Go.Proofs.YtahfpadaoobkfaaGreatDoor

/-
  statute: open, Check; slices.Clone and slices.Delete at findings.
-/
namespace Go.Proofs.YtahfpadaoobkfaaGreatDoor
open Go.RowKit Go.Lib Go.Maps

/-- What open returns. -/
def Opened (ys : List ClV) (c : Rb) (q : Qn) (w : World) (e : Ending) (w' : World) : Prop :=
  Fr [] w w' ∧ ((okB c q = false ∧ ∃ p, e = .returned (.tuple #[.pointer p, .int .i64 80])) ∨
    (okB c q = true ∧ ∃ J D, e = .returned (.tuple #[.pointer (some ⟨J.bj, 0, none⟩), .int .i64 0]) ∧ JS J w' ∧ FoundAt w' J.bm J.fd D ∧ J.c = c ∧ J.fs = factsOf c q ∧ J.cs = clausesOf c q ∧ J.ys = ys ∧ w.heap.size ≤ J.bm ∧ w.heap.size ≤ J.bj))

theorem factsOf_sub {c : Rb} {q : Qn} {i : Int} (h : i ∈ factsOf c q) : 0 ≤ i ∧ i < c.fas.length := pickN_lt h
theorem clausesOf_sub {c : Rb} {q : Qn} {i : Int} (h : i ∈ clausesOf c q) : 0 ≤ i ∧ i < c.cls.length := pickN_lt h

theorem emptyFound (w : World) (f : Int → Fd) : FoundAt (w.alloc (.map #[] 0)) w.heap.size f (.map []) := by
  refine ⟨?_, fun k _ h => ?_⟩
  · have : cntD (.map [] : DataW Unit) 20 = 0 := by
      unfold cntD
      rw [List.filter_eq_nil_iff.2 (fun k _ => by simp [Maps.has])]
      rfl
    rw [this]
    exact World.ownsMap_made w Tryz.prog 3 fdR
  · simp [Maps.has] at h

set_option maxRecDepth 100000 in
set_option maxHeartbeats 4000000 in
theorem open_c (vc vr vf : Value) (ys : List ClV) (c : Rb) (q : Qn) (w : World) (h : RbAt w vc vr vf ys c) : Calls Tryz.prog 94 #[rbV vc vr vf, qnV q] w (Opened ys c q w) := by
  have hcl : c.cls.length = ys.length := by rw [h.eq]; simp
  obtain ⟨ac, pc, rfl⟩ := h.cls.sl.val
  obtain ⟨ar, pr, rfl⟩ := h.rps.val
  obtain ⟨af, pf, rfl⟩ := h.fas.val
  obtain ⟨th, sa, at_, kn⟩ := q
  have A2 := alloc2' w (.cells #[.slice ac ys.length pc, .slice ar c.rps.length pr, .slice af c.fas.length pf] 36) (.cells #[.int .i64 th, .int .i64 sa, .int .i64 at_, .int .i64 kn] 142)
  have F2 : Fr [] w ((w.alloc (.cells #[.slice ac ys.length pc, .slice ar c.rps.length pr, .slice af c.fas.length pf] 36)).alloc (.cells #[.int .i64 th, .int .i64 sa, .int .i64 at_, .int .i64 kn] 142)) := (Fr.alloc _ _ _).trans (Fr.alloc _ _ _)
  have CA := Lib.hid (applies_c _ _ _ ys c ⟨th, sa, at_, kn⟩ _ (h.same F2))
  have HA := Lib.hid A2; have HF := Lib.hid F2; have HR := Lib.hid h; clear A2 F2 h
  have hmm := @run_makeMap Tryz.prog
  unfold rbV qnV at *
  simp only at CA ⊢
  go_enter Tryz.func94, Tryz.ntmps94
  go_wp2_with fail
  refine CA.out.mono ?_
  rintro e w1 ⟨f1, h1⟩
  have K0 := f1.keep HA.out.1 (by simp)
  have c0 : w1.cell? ⟨w.heap.size, 0, none⟩ = some (.slice ac ys.length pc) := cell_of_blk K0 0
  have c1 : w1.cell? ⟨w.heap.size, 1, none⟩ = some (.slice ar c.rps.length pr) := cell_of_blk K0 1
  have c2 : w1.cell? ⟨w.heap.size, 2, none⟩ = some (.slice af c.fas.length pf) := cell_of_blk K0 2
  have F1 := Lib.hid (HF.out.trans f1)
  clear K0 f1 CA
  rcases h1 with ⟨ho, rfl⟩ | ⟨ho, v1, v2, rfl, r1, r2, n1, n2⟩
  · have Ho := Lib.hid ho; clear ho
    go_wp2_with fail
    go_ret2
    exact ⟨(F1.out.trans (Fr.alloc _ _ _)).trans (Fr.alloc _ _ _), .inl ⟨Ho.out, _, rfl⟩⟩
  · have S1 := Lib.hid (sl_of_row r1)
    have S2 := Lib.hid (sl_of_row r2)
    obtain ⟨a1, p1, rfl⟩ := S1.out.val
    obtain ⟨a2, p2, rfl⟩ := S2.out.val
    have Ho := Lib.hid ho
    clear r1 r2 n1 n2 ho
    go_wp2_with fail
    go_ret2
    have hok := Ho.out
    simp only [okB, Bool.and_eq_true] at hok
    have f3 : Fr [] w1 ((w1.alloc (.map #[] 0)).alloc (.cells #[.slice ac ys.length pc, .slice ar c.rps.length pr, .slice af c.fas.length pf, .slice a1 (factsOf c ⟨th, sa, at_, kn⟩).length p1, .slice a2 (clausesOf c ⟨th, sa, at_, kn⟩).length p2, .map (some w1.heap.size)] 222)) := (Fr.alloc _ _ _).trans (Fr.alloc _ _ _)
    have A3 := alloc2' w1 (.map #[] 0) (.cells #[.slice ac ys.length pc, .slice ar c.rps.length pr, .slice af c.fas.length pf, .slice a1 (factsOf c ⟨th, sa, at_, kn⟩).length p1, .slice a2 (clausesOf c ⟨th, sa, at_, kn⟩).length p2, .map (some w1.heap.size)] 222)
    have hs1 := F1.out.size
    refine ⟨F1.out.trans f3, .inr ⟨Ho.out, ⟨w1.heap.size + 1, w1.heap.size, _, _, _, _, _, ys, c, factsOf c ⟨th, sa, at_, kn⟩, clausesOf c ⟨th, sa, at_, kn⟩⟩, .map [], rfl, ⟨A3.2, HR.out.same (F1.out.trans f3), S1.out.same f3, S2.out.same f3, hok.1, good_of_valid hok.1, fun i hi => factsOf_sub hi, fun i hi => by have := clausesOf_sub hi; rw [hcl] at this; exact this⟩, (emptyFound w1 _).fr (Fr.alloc _ _ _), rfl, rfl, rfl, rfl, hs1, by simp only; omega⟩⟩

set_option maxRecDepth 100000 in
set_option maxHeartbeats 4000000 in
theorem check_c (vc vr vf vl : Value) (ys : List ClV) (c : Rb) (q : Qn) (hh : Bool) (l : List Fd) (w : World) (h : RbAt w vc vr vf ys c) (hl : Sl w vl l.length (l.flatMap fdC)) : Calls Tryz.prog 59 #[rbV vc vr vf, qnV q, .bool hh, vl] w fun e w' => e = .returned (.bool (checkB c q hh l)) ∧ Fr [] w w' := by
  obtain ⟨ac, pc, rfl⟩ := h.cls.sl.val
  obtain ⟨ar, pr, rfl⟩ := h.rps.val
  obtain ⟨af, pf, rfl⟩ := h.fas.val
  obtain ⟨al, pl, rfl⟩ := hl.val
  obtain ⟨th, sa, at_, kn⟩ := q
  have A2 := alloc2' w (.cells #[.slice ac ys.length pc, .slice ar c.rps.length pr, .slice af c.fas.length pf] 36) (.cells #[.int .i64 th, .int .i64 sa, .int .i64 at_, .int .i64 kn] 142)
  have F2 : Fr [] w ((w.alloc (.cells #[.slice ac ys.length pc, .slice ar c.rps.length pr, .slice af c.fas.length pf] 36)).alloc (.cells #[.int .i64 th, .int .i64 sa, .int .i64 at_, .int .i64 kn] 142)) := (Fr.alloc _ _ _).trans (Fr.alloc _ _ _)
  have CO := Lib.hid (open_c _ _ _ ys c ⟨th, sa, at_, kn⟩ _ (h.same F2))
  have HA := Lib.hid A2; have HF := Lib.hid F2; have HL := Lib.hid hl; clear A2 F2 h hl
  unfold rbV qnV at *
  simp only at CO ⊢
  go_enter Tryz.func59, Tryz.ntmps59
  go_wp2_with fail
  refine CO.out.mono ?_
  rintro e w1 ⟨f1, h1⟩
  have K1 := f1.keep HA.out.2 (by simp)
  have c1 : w1.cell? ⟨w.heap.size + 1, 1, none⟩ = some (.int .i64 sa) := cell_of_blk K1 1
  have F1 := Lib.hid (HF.out.trans f1)
  clear K1 f1 CO
  rcases h1 with ⟨ho, p, rfl⟩ | ⟨ho, J, D, rfl, hJ, hD, rfl, e2, e3, _, _, _⟩
  · have hc : checkB c ⟨th, sa, at_, kn⟩ hh l = false := by simp [checkB, ho]
    have HC := Lib.hid hc
    clear hc ho
    go_wp2_with fail
    go_ret
    exact ⟨by rw [HC.out]; rfl, F1.out⟩
  · have hc : checkB J.c ⟨th, sa, at_, kn⟩ hh l = provesB J.c J.fs J.cs sa hh l := by simp only [checkB, ho, Bool.true_and, e2, e3]
    have HC := Lib.hid hc
    have CP := Lib.hid (proves_c J sa hh _ l w1 hJ (HL.out.same F1.out))
    clear hc ho hJ hD e2 e3
    go_wp2_with (first | (go_at_call 95; refine CP.out.mono ?_; rintro e w2 ⟨rfl, f2⟩; have F2 := Lib.hid f2; clear f2))
    go_ret
    exact ⟨by rw [HC.out]; rfl, F1.out.trans F2.out⟩

end Go.Proofs.YtahfpadaoobkfaaGreatDoor
