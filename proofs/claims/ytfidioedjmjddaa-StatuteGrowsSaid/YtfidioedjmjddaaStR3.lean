/-
  statute: the predicates of isRight, third part.
-/
import Derived.Test.YtfidioedjmjddaaStR2
namespace Go.Proofs.Ytfidioedjmjddaa
open Go.RowKit Go.Lib Go.Maps

set_option maxRecDepth 100000 in
set_option maxHeartbeats 2000000 in
theorem right5_c {J : Jn} {B3 B4 B5 B7 B8 : Nat} {x : Fd} {vl : Value} {l : List Fd} (i : Int) (w : World) (h : REnv J B3 B4 B5 B7 B8 x vl l w) (hi : i ∈ J.fs) :
    Calls Try.prog 60 #[.int .i64 i, .pointer (some ⟨B3, 0, none⟩), .pointer (some ⟨B4, 0, none⟩)] w fun e w' => e = .returned (.bool (decide ((J.c.fa i).says = x.says))) ∧ Fr [] w w' := by
  have hsub := h.js.fsub i hi
  obtain ⟨ii, rfl⟩ := Int.eq_ofNat_of_zero_le hsub.1
  have hil : ii < J.c.fas.length := by omega
  have hfa : J.c.fa ii = J.c.fas[ii] := by simp [Rb.fa, hil]
  rw [hfa]
  obtain ⟨af, pf, hvf⟩ := h.js.rb.fas.val
  have hsl := h.js.rb.fas
  rw [hvf] at hsl
  obtain ⟨b2, o2, h2, hc2⟩ := hsl.at_ (by omega)
  subst h2
  have e1 := hc2 (ii * 6 + 1) _ ((flat_get (enc := faC) (k := 6) (fun _ => rfl) J.c.fas ii hil 1 (by omega)).trans rfl)
  simp only [← Nat.add_assoc] at e1
  have c3 : w.cell? ⟨B3, 0, none⟩ = some (.pointer (some ⟨J.bj, 0, none⟩)) := cell_of_blk h.h3 0
  have c4 : w.cell? ⟨B4, 0, none⟩ = some (.int .i64 x.says) := cell_of_blk h.h4 0
  have q2 : w.cell? ⟨J.bj, 2, none⟩ = some (.slice (some ⟨b2, o2, none⟩) J.c.fas.length pf) := by rw [← hvf]; exact cell_of_blk h.js.str 2
  have hfl := h.js.rb.fas.len
  have hix : (ii : Int) < (J.c.fas.length : Int) := by omega
  clear hc2 hsl hfa hsub h
  generalize (J.c.fas[ii]).says = sy at *
  generalize x.says = sx at *
  go_enter Try.func60, Try.ntmps60
  go_wp2_with fail
  go_quiet (fail)
  go_wp2_with fail
  go_ret
  refine ⟨?_, Fr.drewN _ _ _⟩
  by_cases h : sy = sx <;> simp [h]

set_option maxRecDepth 100000 in
set_option maxHeartbeats 2000000 in
theorem right6_c {J : Jn} {B3 B4 B5 B7 B8 : Nat} {x : Fd} {vl : Value} {l : List Fd} (i : Int) (w : World) (h : REnv J B3 B4 B5 B7 B8 x vl l w) (hi : i ∈ J.cs) :
    Calls Try.prog 61 #[.int .i64 i, .pointer (some ⟨B3, 0, none⟩), .pointer (some ⟨B4, 0, none⟩), .pointer (some ⟨B8, 0, none⟩)] w fun e w' => e = .returned (.bool (decide ((J.c.cl i).gives = x.says) && !barredB J.c l i)) ∧ Fr [] w w' := by
  have hsub := h.js.csub i hi
  obtain ⟨ii, rfl⟩ := Int.eq_ofNat_of_zero_le hsub.1
  have hil : ii < J.ys.length := by omega
  have heq : J.c.cls = J.ys.map (·.x) := h.js.rb.eq
  have hcl : J.c.cl ii = J.ys[ii].x := by simp [Rb.cl, heq, hil]
  have CB := Lib.hid (right2_c ii w.drew (h.same (Fr.drew _ _)) hi)
  rw [hcl]
  obtain ⟨ac, pc, hvc⟩ := h.js.rb.cls.sl.val
  have hsl := h.js.rb.cls.sl
  rw [hvc] at hsl
  obtain ⟨b2, o2, h2, hc2⟩ := hsl.at_ (by omega)
  subst h2
  have d5 := hc2 (ii * 6 + 5) _ ((flat_get (enc := clC) (k := 6) (fun _ => rfl) J.ys ii hil 5 (by omega)).trans rfl)
  simp only [← Nat.add_assoc] at d5
  have c3 : w.cell? ⟨B3, 0, none⟩ = some (.pointer (some ⟨J.bj, 0, none⟩)) := cell_of_blk h.h3 0
  have c4 : w.cell? ⟨B4, 0, none⟩ = some (.int .i64 x.says) := cell_of_blk h.h4 0
  have c8 : w.cell? ⟨B8, 0, none⟩ = some (.func (.func 54) #[] #[.pointer (some ⟨B3, 0, none⟩), .pointer (some ⟨B7, 0, none⟩)]) := cell_of_blk h.h8 0
  have q0 : w.cell? ⟨J.bj, 0, none⟩ = some (.slice (some ⟨b2, o2, none⟩) J.ys.length pc) := by rw [← hvc]; exact cell_of_blk h.js.str 0
  have hyl := h.js.rb.cls.sl.len
  have hix : (ii : Int) < (J.ys.length : Int) := by omega
  have H3 := Lib.hid h.h3; have H4 := Lib.hid h.h4; have H8 := Lib.hid h.h8; have HJ := Lib.hid h.js.str
  have DC : Hid (∀ W : World, Fr [] w W → W.cell? ⟨b2, o2 + ii * 6 + 5, none⟩ = some (.int .i64 (J.ys[ii].x).gives)) := Lib.hid fun W hf => (World.cell?_of_block (hf.block b2 (World.block_lt_of_cell? w _ d5) (by simp))).trans d5
  clear hc2 hsl hcl hsub h heq
  generalize (J.ys[ii].x).gives = sy at *
  generalize x.says = sx at *
  generalize barredB J.c l ii = bb at *
  by_cases hg : sy = sx
  · subst hg
    have S0 : w.drew.cell? ⟨B3, 0, none⟩ = some (.pointer (some ⟨J.bj, 0, none⟩)) ∧ w.drew.cell? ⟨B4, 0, none⟩ = some (.int .i64 sy) ∧ w.drew.cell? ⟨B8, 0, none⟩ = some (.func (.func 54) #[] #[.pointer (some ⟨B3, 0, none⟩), .pointer (some ⟨B7, 0, none⟩)]) ∧ w.drew.cell? ⟨J.bj, 0, none⟩ = some (.slice (some ⟨b2, o2, none⟩) J.ys.length pc) ∧ w.drew.cell? ⟨b2, o2 + ii * 6 + 5, none⟩ = some (.int .i64 sy) := ⟨c3, c4, c8, q0, d5⟩
    go_enter Try.func61, Try.ntmps61
    go_wp2_with fail
    go_region_held3 (fun W : World => W.cell? ⟨B3, 0, none⟩ = some (.pointer (some ⟨J.bj, 0, none⟩)) ∧ W.cell? ⟨B4, 0, none⟩ = some (.int .i64 sy) ∧ W.cell? ⟨B8, 0, none⟩ = some (.func (.func 54) #[] #[.pointer (some ⟨B3, 0, none⟩), .pointer (some ⟨B7, 0, none⟩)]) ∧ W.cell? ⟨J.bj, 0, none⟩ = some (.slice (some ⟨b2, o2, none⟩) J.ys.length pc) ∧ W.cell? ⟨b2, o2 + ii * 6 + 5, none⟩ = some (.int .i64 sy)) (first | exact S0 | assumption) (first | (go_at_call 54; refine CB.out.mono ?_; rintro e w1 ⟨rfl, f1⟩; have F1 := Lib.hid ((Fr.drew [] w).trans f1); have S1 : w1.cell? ⟨B3, 0, none⟩ = some (.pointer (some ⟨J.bj, 0, none⟩)) ∧ w1.cell? ⟨B4, 0, none⟩ = some (.int .i64 sy) ∧ w1.cell? ⟨B8, 0, none⟩ = some (.func (.func 54) #[] #[.pointer (some ⟨B3, 0, none⟩), .pointer (some ⟨B7, 0, none⟩)]) ∧ w1.cell? ⟨J.bj, 0, none⟩ = some (.slice (some ⟨b2, o2, none⟩) J.ys.length pc) ∧ w1.cell? ⟨b2, o2 + ii * 6 + 5, none⟩ = some (.int .i64 sy) := ⟨cell_of_blk (F1.out.keep H3.out (by simp)) 0, cell_of_blk (F1.out.keep H4.out (by simp)) 0, cell_of_blk (F1.out.keep H8.out (by simp)) 0, by rw [← hvc]; exact cell_of_blk (F1.out.keep HJ.out (by simp)) 0, DC.out w1 F1.out⟩; clear f1))
    go_wp2_with fail
    go_ret
    exact ⟨by simp, F1.out⟩
  · have hgd : (sy == sx) = false := by simpa using hg
    have e : decide (sy = sx) = false := by simpa using hg
    rw [e]
    clear hg e
    go_enter Try.func61, Try.ntmps61
    go_wp2_with fail
    go_quiet (fail)
    go_wp2_with fail
    go_ret
    exact ⟨by simp, Fr.drewN _ _ _⟩

theorem cf_right5 {J : Jn} {B3 B4 B5 B7 B8 : Nat} {x : Fd} {vl : Value} {l : List Fd} (w : World) (h : REnv J B3 B4 B5 B7 B8 x vl l w) :
    Calls Try.prog 47 #[J.v1, .func (.func 60) #[] #[.pointer (some ⟨B3, 0, none⟩), .pointer (some ⟨B4, 0, none⟩)]] w fun e w' => e = .returned (.bool (J.fs.any fun i => decide ((J.c.fa i).says = x.says))) ∧ Fr [] w w' := by
  obtain ⟨a, cap, hv⟩ := h.js.f.val
  have hz := h.js.f
  rw [hv] at hz
  rw [hv]
  refine (cfInt_c 60 #[.pointer (some ⟨B3, 0, none⟩), .pointer (some ⟨B4, 0, none⟩)] (fun _ _ => rfl) a cap J.fs (fun k => decide ((J.c.fa (J.fs.getD k 0)).says = x.says)) (fun _ W => Fr [] w W) w (fun k W hJ => hz.same hJ) ?_ (Fr.refl _ _)).mono ?_
  · intro k W hk _ hJ
    refine (right5_c (J.fs.getD k 0) W (h.same hJ) (by simp [hk])).mono ?_
    rintro e w' ⟨rfl, f⟩
    exact ⟨rfl, hJ.trans f⟩
  · rintro e w' ⟨rfl, k, hJ⟩
    exact ⟨by rw [anyN_list J.fs (fun i => decide ((J.c.fa i).says = x.says)) 0], hJ⟩
theorem cf_right6 {J : Jn} {B3 B4 B5 B7 B8 : Nat} {x : Fd} {vl : Value} {l : List Fd} (w : World) (h : REnv J B3 B4 B5 B7 B8 x vl l w) :
    Calls Try.prog 47 #[J.v2, .func (.func 61) #[] #[.pointer (some ⟨B3, 0, none⟩), .pointer (some ⟨B4, 0, none⟩), .pointer (some ⟨B8, 0, none⟩)]] w fun e w' => e = .returned (.bool (J.cs.any fun i => decide ((J.c.cl i).gives = x.says) && !barredB J.c l i)) ∧ Fr [] w w' := by
  obtain ⟨a, cap, hv⟩ := h.js.c.val
  have hz := h.js.c
  rw [hv] at hz
  rw [hv]
  refine (cfInt_c 61 #[.pointer (some ⟨B3, 0, none⟩), .pointer (some ⟨B4, 0, none⟩), .pointer (some ⟨B8, 0, none⟩)] (fun _ _ => rfl) a cap J.cs (fun k => decide ((J.c.cl (J.cs.getD k 0)).gives = x.says) && !barredB J.c l (J.cs.getD k 0)) (fun _ W => Fr [] w W) w (fun k W hJ => hz.same hJ) ?_ (Fr.refl _ _)).mono ?_
  · intro k W hk _ hJ
    refine (right6_c (J.cs.getD k 0) W (h.same hJ) (by simp [hk])).mono ?_
    rintro e w' ⟨rfl, f⟩
    exact ⟨rfl, hJ.trans f⟩
  · rintro e w' ⟨rfl, k, hJ⟩
    exact ⟨by rw [anyN_list J.cs (fun i => decide ((J.c.cl i).gives = x.says) && !barredB J.c l i) 0], hJ⟩

end Go.Proofs.Ytfidioedjmjddaa
