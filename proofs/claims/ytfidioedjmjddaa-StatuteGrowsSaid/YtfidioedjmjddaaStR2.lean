/-
  statute: the predicates of isRight, second part.
-/
import Derived.Test.YtfidioedjmjddaaStR
namespace Go.Proofs.Ytfidioedjmjddaa
open Go.RowKit Go.Lib Go.Maps

set_option maxRecDepth 100000 in
theorem right3_c {J : Jn} {B3 B4 B5 B7 B8 : Nat} {x : Fd} {vl : Value} {l : List Fd} (n : Int) (w : World) (h : REnv J B3 B4 B5 B7 B8 x vl l w) :
    Calls Try.prog 58 #[.int .i64 n, .pointer (some ⟨B7, 0, none⟩)] w fun e w' => e = .returned (.bool (!findsB l n true)) ∧ Fr [] w w' := by
  have c7 : w.cell? ⟨B7, 0, none⟩ = some (.func (.func 51) #[] #[.pointer (some ⟨B5, 0, none⟩)]) := cell_of_blk h.h7 0
  have C := Lib.hid (right1_c B5 vl l n true w h.h5 h.sl)
  clear h
  go_enter Try.func58, Try.ntmps58
  go_wp2_with (first | (go_at_call 51; refine C.out.mono ?_; rintro e w1 ⟨rfl, f1⟩; have F1 := Lib.hid f1; clear f1))
  go_ret
  exact ⟨rfl, F1.out⟩
theorem cf_right3 {J : Jn} {B3 B4 B5 B7 B8 : Nat} {x : Fd} {vl : Value} {l : List Fd} (v : Value) (zs : List Int) (w : World) (h : REnv J B3 B4 B5 B7 B8 x vl l w) (hz : IntsAt w v zs) :
    Calls Try.prog 47 #[v, .func (.func 58) #[] #[.pointer (some ⟨B7, 0, none⟩)]] w fun e w' => e = .returned (.bool (zs.any fun n => !findsB l n true)) ∧ Fr [] w w' := by
  obtain ⟨a, cap, rfl⟩ := hz.val
  refine (cfInt_c 58 #[.pointer (some ⟨B7, 0, none⟩)] (fun _ _ => rfl) a cap zs (fun k => (fun n => !findsB l n true) (zs.getD k 0)) (fun _ W => Fr [] w W) w (fun k W hJ => hz.same hJ) ?_ (Fr.refl _ _)).mono ?_
  · intro k W hk _ hJ
    refine (right3_c (zs.getD k 0) W (h.same hJ)).mono ?_
    rintro e w' ⟨rfl, f⟩
    exact ⟨rfl, hJ.trans f⟩
  · rintro e w' ⟨rfl, k, hJ⟩
    exact ⟨by rw [anyN_list zs (fun n => !findsB l n true) 0], hJ⟩

set_option maxRecDepth 100000 in
theorem right4_c {J : Jn} {B3 B4 B5 B7 B8 : Nat} {x : Fd} {vl : Value} {l : List Fd} (n : Int) (w : World) (h : REnv J B3 B4 B5 B7 B8 x vl l w) :
    Calls Try.prog 59 #[.int .i64 n, .pointer (some ⟨B7, 0, none⟩)] w fun e w' => e = .returned (.bool (!findsB l n false)) ∧ Fr [] w w' := by
  have c7 : w.cell? ⟨B7, 0, none⟩ = some (.func (.func 51) #[] #[.pointer (some ⟨B5, 0, none⟩)]) := cell_of_blk h.h7 0
  have C := Lib.hid (right1_c B5 vl l n false w h.h5 h.sl)
  clear h
  go_enter Try.func59, Try.ntmps59
  go_wp2_with (first | (go_at_call 51; refine C.out.mono ?_; rintro e w1 ⟨rfl, f1⟩; have F1 := Lib.hid f1; clear f1))
  go_ret
  exact ⟨rfl, F1.out⟩
theorem cf_right4 {J : Jn} {B3 B4 B5 B7 B8 : Nat} {x : Fd} {vl : Value} {l : List Fd} (v : Value) (zs : List Int) (w : World) (h : REnv J B3 B4 B5 B7 B8 x vl l w) (hz : IntsAt w v zs) :
    Calls Try.prog 47 #[v, .func (.func 59) #[] #[.pointer (some ⟨B7, 0, none⟩)]] w fun e w' => e = .returned (.bool (zs.any fun n => !findsB l n false)) ∧ Fr [] w w' := by
  obtain ⟨a, cap, rfl⟩ := hz.val
  refine (cfInt_c 59 #[.pointer (some ⟨B7, 0, none⟩)] (fun _ _ => rfl) a cap zs (fun k => (fun n => !findsB l n false) (zs.getD k 0)) (fun _ W => Fr [] w W) w (fun k W hJ => hz.same hJ) ?_ (Fr.refl _ _)).mono ?_
  · intro k W hk _ hJ
    refine (right4_c (zs.getD k 0) W (h.same hJ)).mono ?_
    rintro e w' ⟨rfl, f⟩
    exact ⟨rfl, hJ.trans f⟩
  · rintro e w' ⟨rfl, k, hJ⟩
    exact ⟨by rw [anyN_list zs (fun n => !findsB l n false) 0], hJ⟩

set_option maxRecDepth 100000 in
theorem right21_c {J : Jn} {B3 B4 B5 B7 B8 : Nat} {x : Fd} {vl : Value} {l : List Fd} (n : Int) (w : World) (h : REnv J B3 B4 B5 B7 B8 x vl l w) :
    Calls Try.prog 55 #[.int .i64 n, .pointer (some ⟨B7, 0, none⟩)] w fun e w' => e = .returned (.bool (findsB l n false)) ∧ Fr [] w w' := by
  have c7 : w.cell? ⟨B7, 0, none⟩ = some (.func (.func 51) #[] #[.pointer (some ⟨B5, 0, none⟩)]) := cell_of_blk h.h7 0
  have C := Lib.hid (right1_c B5 vl l n false w h.h5 h.sl)
  clear h
  go_enter Try.func55, Try.ntmps55
  go_wp2_with (first | (go_at_call 51; refine C.out.mono ?_; rintro e w1 ⟨rfl, f1⟩; have F1 := Lib.hid f1; clear f1))
  go_ret
  exact ⟨rfl, F1.out⟩
theorem cf_right21 {J : Jn} {B3 B4 B5 B7 B8 : Nat} {x : Fd} {vl : Value} {l : List Fd} (v : Value) (zs : List Int) (w : World) (h : REnv J B3 B4 B5 B7 B8 x vl l w) (hz : IntsAt w v zs) :
    Calls Try.prog 47 #[v, .func (.func 55) #[] #[.pointer (some ⟨B7, 0, none⟩)]] w fun e w' => e = .returned (.bool (zs.any fun n => findsB l n false)) ∧ Fr [] w w' := by
  obtain ⟨a, cap, rfl⟩ := hz.val
  refine (cfInt_c 55 #[.pointer (some ⟨B7, 0, none⟩)] (fun _ _ => rfl) a cap zs (fun k => (fun n => findsB l n false) (zs.getD k 0)) (fun _ W => Fr [] w W) w (fun k W hJ => hz.same hJ) ?_ (Fr.refl _ _)).mono ?_
  · intro k W hk _ hJ
    refine (right21_c (zs.getD k 0) W (h.same hJ)).mono ?_
    rintro e w' ⟨rfl, f⟩
    exact ⟨rfl, hJ.trans f⟩
  · rintro e w' ⟨rfl, k, hJ⟩
    exact ⟨by rw [anyN_list zs (fun n => findsB l n false) 0], hJ⟩

set_option maxRecDepth 100000 in
theorem right22_c {J : Jn} {B3 B4 B5 B7 B8 : Nat} {x : Fd} {vl : Value} {l : List Fd} (n : Int) (w : World) (h : REnv J B3 B4 B5 B7 B8 x vl l w) :
    Calls Try.prog 56 #[.int .i64 n, .pointer (some ⟨B7, 0, none⟩)] w fun e w' => e = .returned (.bool (findsB l n true)) ∧ Fr [] w w' := by
  have c7 : w.cell? ⟨B7, 0, none⟩ = some (.func (.func 51) #[] #[.pointer (some ⟨B5, 0, none⟩)]) := cell_of_blk h.h7 0
  have C := Lib.hid (right1_c B5 vl l n true w h.h5 h.sl)
  clear h
  go_enter Try.func56, Try.ntmps56
  go_wp2_with (first | (go_at_call 51; refine C.out.mono ?_; rintro e w1 ⟨rfl, f1⟩; have F1 := Lib.hid f1; clear f1))
  go_ret
  exact ⟨rfl, F1.out⟩
theorem cf_right22 {J : Jn} {B3 B4 B5 B7 B8 : Nat} {x : Fd} {vl : Value} {l : List Fd} (v : Value) (zs : List Int) (w : World) (h : REnv J B3 B4 B5 B7 B8 x vl l w) (hz : IntsAt w v zs) :
    Calls Try.prog 47 #[v, .func (.func 56) #[] #[.pointer (some ⟨B7, 0, none⟩)]] w fun e w' => e = .returned (.bool (zs.any fun n => findsB l n true)) ∧ Fr [] w w' := by
  obtain ⟨a, cap, rfl⟩ := hz.val
  refine (cfInt_c 56 #[.pointer (some ⟨B7, 0, none⟩)] (fun _ _ => rfl) a cap zs (fun k => (fun n => findsB l n true) (zs.getD k 0)) (fun _ W => Fr [] w W) w (fun k W hJ => hz.same hJ) ?_ (Fr.refl _ _)).mono ?_
  · intro k W hk _ hJ
    refine (right22_c (zs.getD k 0) W (h.same hJ)).mono ?_
    rintro e w' ⟨rfl, f⟩
    exact ⟨rfl, hJ.trans f⟩
  · rintro e w' ⟨rfl, k, hJ⟩
    exact ⟨by rw [anyN_list zs (fun n => findsB l n true) 0], hJ⟩

set_option maxRecDepth 100000 in
set_option maxHeartbeats 2000000 in
theorem right2_c {J : Jn} {B3 B4 B5 B7 B8 : Nat} {x : Fd} {vl : Value} {l : List Fd} (i : Int) (w : World) (h : REnv J B3 B4 B5 B7 B8 x vl l w) (hi : i ∈ J.cs) :
    Calls Try.prog 54 #[.int .i64 i, .pointer (some ⟨B3, 0, none⟩), .pointer (some ⟨B7, 0, none⟩)] w fun e w' => e = .returned (.bool (barredB J.c l i)) ∧ Fr [] w w' := by
  have hsub := h.js.csub i hi
  obtain ⟨ii, rfl⟩ := Int.eq_ofNat_of_zero_le hsub.1
  have hil : ii < J.ys.length := by omega
  have heq : J.c.cls = J.ys.map (·.x) := h.js.rb.eq
  have hcl : J.c.cl ii = J.ys[ii].x := by simp [Rb.cl, heq, hil]
  have hbar : barredB J.c l ii = ((J.ys[ii].x).needs.any (fun n => findsB l n false) || (J.ys[ii].x).bars.any (fun n => findsB l n true)) := by unfold barredB; rw [hcl]
  rw [hbar]
  obtain ⟨ac, pc, hvc⟩ := h.js.rb.cls.sl.val
  have hsl := h.js.rb.cls.sl
  rw [hvc] at hsl
  obtain ⟨b2, o2, h2, hc2⟩ := hsl.at_ (by omega)
  subst h2
  have d0 := hc2 (ii * 6 + 0) _ ((flat_get (enc := clC) (k := 6) (fun _ => rfl) J.ys ii hil 0 (by omega)).trans rfl)
  have d1 := hc2 (ii * 6 + 1) _ ((flat_get (enc := clC) (k := 6) (fun _ => rfl) J.ys ii hil 1 (by omega)).trans rfl)
  have d2 := hc2 (ii * 6 + 2) _ ((flat_get (enc := clC) (k := 6) (fun _ => rfl) J.ys ii hil 2 (by omega)).trans rfl)
  have d3 := hc2 (ii * 6 + 3) _ ((flat_get (enc := clC) (k := 6) (fun _ => rfl) J.ys ii hil 3 (by omega)).trans rfl)
  have d4 := hc2 (ii * 6 + 4) _ ((flat_get (enc := clC) (k := 6) (fun _ => rfl) J.ys ii hil 4 (by omega)).trans rfl)
  have d5 := hc2 (ii * 6 + 5) _ ((flat_get (enc := clC) (k := 6) (fun _ => rfl) J.ys ii hil 5 (by omega)).trans rfl)
  simp only [Nat.add_zero, ← Nat.add_assoc] at d0 d1 d2 d3 d4 d5
  have HN := Lib.hid (h.js.rb.cls.needs J.ys[ii] (List.getElem_mem hil))
  have HB := Lib.hid (h.js.rb.cls.bars J.ys[ii] (List.getElem_mem hil))
  obtain ⟨an, pn, hvn⟩ := HN.out.val
  obtain ⟨ab, pb, hvb⟩ := HB.out.val
  have c3 : w.cell? ⟨B3, 0, none⟩ = some (.pointer (some ⟨J.bj, 0, none⟩)) := cell_of_blk h.h3 0
  have q0 : w.cell? ⟨J.bj, 0, none⟩ = some (.slice (some ⟨b2, o2, none⟩) J.ys.length pc) := by rw [← hvc]; exact cell_of_blk h.js.str 0
  have hyl := h.js.rb.cls.sl.len
  clear hc2 hsl hbar hcl heq hsub
  generalize J.ys[ii] = y at *
  obtain ⟨⟨pub, f, t, needs, bars, gives⟩, vn, vb⟩ := y
  simp only at d0 d1 d2 d3 d4 d5 hvn hvb HN HB ⊢
  subst hvn hvb
  have R1 := Lib.hid (h.same (Fr.alloc [] w (.cells #[.int .i64 pub, .int .i64 f, .int .i64 t, .slice an needs.length pn, .slice ab bars.length pb, .int .i64 gives] 38)))
  have KX := Lib.hid (heap_alloc_new w (.cells #[.int .i64 pub, .int .i64 f, .int .i64 t, .slice an needs.length pn, .slice ab bars.length pb, .int .i64 gives] 38))
  have CN := Lib.hid (cf_right21 _ needs _ R1.out (HN.out.same (Fr.alloc _ _ _)))
  clear h
  go_enter Try.func54, Try.ntmps54
  go_wp2_with fail
  refine CN.out.mono ?_
  rintro e w1 ⟨rfl, f1⟩
  have K1 := f1.keep KX.out (by simp)
  have r4 : w1.cell? ⟨w.heap.size, 4, none⟩ = some (.slice ab bars.length pb) := cell_of_blk K1 4
  have F1 := Lib.hid ((Fr.alloc [] _ _).trans f1)
  have CB := Lib.hid (cf_right22 _ bars _ (R1.out.same f1) (HB.out.same F1.out))
  clear K1 f1
  cases hb : needs.any (fun n => findsB l n false)
  · go_wp2_with fail
    refine CB.out.mono ?_
    rintro e w2 ⟨rfl, f2⟩
    have F2 := Lib.hid (F1.out.trans f2); clear f2
    go_wp2_with fail
    go_ret
    exact ⟨by rw [hb, Bool.false_or]; rfl, F2.out⟩
  · go_wp2_with fail
    go_ret
    exact ⟨by rw [hb, Bool.true_or]; rfl, F1.out⟩

end Go.Proofs.Ytfidioedjmjddaa
