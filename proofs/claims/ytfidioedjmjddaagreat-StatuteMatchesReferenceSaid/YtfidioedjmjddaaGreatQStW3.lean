/-
  statute: Valid, rules.
-/
import Derived.Test.YtfidioedjmjddaaGreatQStW2
namespace Go.Proofs.YtfidioedjmjddaaGreat
open Go.RowKit Go.Lib

theorem any_not {α : Type} (l : List α) (q : α → Bool) : l.any (fun x => !q x) = !l.all q := by
  induction l with
  | nil => rfl
  | cons a l ih => simp [List.any_cons, ih]

set_option maxRecDepth 100000 in
theorem cfCl_valid (vc : Value) (ys : List ClV) (w : World) (h : ClsAt w vc ys) (hok : ∀ y, y ∈ ys → ClOk y.x) : Calls Tryz.prog 30 #[vc, .func (.func 31) #[] #[]] w fun e w' => e = .returned (.bool (!(ys.map (·.x)).all clB)) ∧ Fr [] w w' := by
  obtain ⟨a, cap, rfl⟩ := h.sl.val
  refine (cfCl_c 31 #[] (fun _ _ => rfl) a cap ys (fun k => !clB (ys.getD k default).x) (fun _ W => Fr [] w W) w (fun k W hJ => h.sl.same hJ) ?_ (Fr.refl _ _)).mono ?_
  · intro k W hk _ hJ
    have hm : ys.getD k default ∈ ys := by simp [hk]
    refine (valid1_c (ys.getD k default) W ((h.needs _ hm).same hJ) ((h.bars _ hm).same hJ) (hok _ hm)).mono ?_
    rintro e w' ⟨rfl, f⟩
    exact ⟨rfl, hJ.trans f⟩
  · rintro e w' ⟨rfl, k, hJ⟩
    refine ⟨?_, hJ⟩
    rw [anyN_list ys (fun y => !clB y.x) default, any_not]
    simp [List.all_map, Function.comp_def]

set_option maxRecDepth 100000 in
theorem cfRp_valid (vr : Value) (B n : Nat) (a : Option Addr) (cap : Nat) (l : List Rp) (w : World) (h : Sl w vr l.length (l.flatMap rpC)) (hB : w.cell? ⟨B, 0, none⟩ = some (.slice a n cap)) (hn : n ≤ 9223372036854775807) : Calls Tryz.prog 36 #[vr, .func (.func 37) #[] #[.pointer (some ⟨B, 0, none⟩)]] w fun e w' => e = .returned (.bool (!l.all (rpB n))) ∧ Fr [] w w' := by
  obtain ⟨va, vcap, rfl⟩ := h.val
  have hbl := World.block_lt_of_cell? w _ hB
  refine (cfRp_c 37 #[.pointer (some ⟨B, 0, none⟩)] (fun _ _ => rfl) va vcap l (fun k => !rpB n (l.getD k default)) (fun _ W => Fr [] w W) w (fun k W hJ => h.same hJ) ?_ (Fr.refl _ _)).mono ?_
  · intro k W hk _ hJ
    refine (valid2_c (l.getD k default) B n a cap W ((World.cell?_of_block (hJ.block B hbl (by simp))).trans hB) (Nat.lt_of_lt_of_le hbl hJ.size) hn).mono ?_
    rintro e w' ⟨rfl, f⟩
    exact ⟨rfl, hJ.trans f⟩
  · rintro e w' ⟨rfl, k, hJ⟩
    exact ⟨by rw [anyN_list l (fun x => !rpB n x) default, any_not], hJ⟩

set_option maxRecDepth 100000 in
theorem cfFa_valid (vf : Value) (l : List Fa) (w : World) (h : Sl w vf l.length (l.flatMap faC)) : Calls Tryz.prog 38 #[vf, .func (.func 39) #[] #[]] w fun e w' => e = .returned (.bool (!l.all faB)) ∧ Fr [] w w' := by
  obtain ⟨va, vcap, rfl⟩ := h.val
  refine (cfFa_c 39 #[] (fun _ _ => rfl) va vcap l (fun k => !faB (l.getD k default)) (fun _ W => Fr [] w W) w (fun k W hJ => h.same hJ) ?_ (Fr.refl _ _)).mono ?_
  · intro k W hk _ hJ
    refine (valid3_c (l.getD k default) W).mono ?_
    rintro e w' ⟨rfl, f⟩
    exact ⟨rfl, hJ.trans f⟩
  · rintro e w' ⟨rfl, k, hJ⟩
    exact ⟨by rw [anyN_list l (fun x => !faB x) default, any_not], hJ⟩

set_option maxRecDepth 100000 in
set_option maxHeartbeats 4000000 in
theorem valid_c (vc vr vf : Value) (ys : List ClV) (c : Rb) (w : World) (h : RbAt w vc vr vf ys c) : Calls Tryz.prog 8 #[rbV vc vr vf] w fun e w' => e = .returned (.bool (validB c)) ∧ Fr [] w w' := by
  obtain ⟨ac, pc, rfl⟩ := h.cls.sl.val
  obtain ⟨ar, pr, rfl⟩ := h.rps.val
  obtain ⟨af, pf, rfl⟩ := h.fas.val
  have hl1 := h.cls.sl.len
  have hl2 := h.rps.len
  have hl3 := h.fas.len
  have hcl : c.cls.length = ys.length := by rw [h.eq]; simp
  have f0 : Fr [] w (w.alloc (.cells #[.slice ac ys.length pc, .slice ar c.rps.length pr, .slice af c.fas.length pf] 30)) := Fr.alloc _ _ _
  have k0 := heap_alloc_new w (.cells #[.slice ac ys.length pc, .slice ar c.rps.length pr, .slice af c.fas.length pf] 30)
  have C1 := Lib.hid (cfCl_valid _ ys _ (h.same f0).cls (fun y hy => h.ok.cls _ (by rw [h.eq]; exact List.mem_map_of_mem hy)))
  have C2 : Hid (∀ W, Fr [] w W → W.cell? ⟨w.heap.size, 0, none⟩ = some (.slice ac ys.length pc) → Calls Tryz.prog 36 #[.slice ar c.rps.length pr, .func (.func 37) #[] #[.pointer (some ⟨w.heap.size, 0, none⟩)]] W fun e w' => e = .returned (.bool (!c.rps.all (rpB ys.length))) ∧ Fr [] W w') := Lib.hid fun W hf hB => cfRp_valid _ _ _ _ _ _ _ (h.rps.same hf) hB hl1
  have C3 : Hid (∀ W, Fr [] w W → Calls Tryz.prog 38 #[.slice af c.fas.length pf, .func (.func 39) #[] #[]] W fun e w' => e = .returned (.bool (!c.fas.all faB)) ∧ Fr [] W w') := Lib.hid fun W hf => cfFa_valid _ _ _ (h.fas.same hf)
  rw [show (ys.map (·.x)).all clB = c.cls.all clB by rw [← h.eq]] at C1
  have F0 := Lib.hid f0; have K0 := Lib.hid k0
  clear h f0 k0
  unfold validB rbV
  rw [hcl]
  generalize c.cls.all clB = b1 at *
  generalize c.rps.all (rpB ys.length) = b2 at *
  generalize c.fas.all faB = b3 at *
  generalize c.rps.length = n2 at *
  generalize c.fas.length = n3 at *
  by_cases h1 : ys.length ≤ 20
  · by_cases h2 : n2 ≤ 10
    · by_cases h3 : n3 ≤ 20
      · cases b1
        · go_enter Tryz.func8, Tryz.ntmps8
          go_wp2_with (first | (go_at_call 30; refine C1.out.mono ?_; rintro e w1 ⟨rfl, f1⟩; have F1 := Lib.hid (F0.out.trans f1); clear f1))
          go_ret
          exact ⟨by simp, F1.out⟩
        · go_enter Tryz.func8, Tryz.ntmps8
          go_wp2_with fail
          refine C1.out.mono ?_
          rintro e w1 ⟨rfl, f1⟩
          have K1 := Lib.hid (f1.keep K0.out (by simp))
          have F1 := Lib.hid (F0.out.trans f1); clear f1
          have g0 : w1.cell? ⟨w.heap.size, 0, none⟩ = some (.slice ac ys.length pc) := cell_of_blk K1.out 0
          have g1 : w1.cell? ⟨w.heap.size, 1, none⟩ = some (.slice ar n2 pr) := cell_of_blk K1.out 1
          go_wp2_with fail
          refine (C2.out w1 F1.out g0).mono ?_
          rintro e w2 ⟨rfl, f2⟩
          have K2 := Lib.hid (f2.keep K1.out (by simp))
          have F2 := Lib.hid (F1.out.trans f2); clear f2
          have g2 : w2.cell? ⟨w.heap.size, 2, none⟩ = some (.slice af n3 pf) := cell_of_blk K2.out 2
          cases b2
          · go_wp2_with fail
            go_ret
            exact ⟨by simp, F2.out⟩
          · go_wp2_with fail
            refine (C3.out w2 F2.out).mono ?_
            rintro e w3 ⟨rfl, f3⟩
            have F3 := Lib.hid (F2.out.trans f3); clear f3
            go_wp2_with fail
            go_ret
            exact ⟨by simp [h1, h2, h3], F3.out⟩
      · go_enter Tryz.func8, Tryz.ntmps8
        go_wp2_with fail
        go_ret
        exact ⟨by have : ¬ n3 ≤ 20 := by omega
                  simp [this], F0.out⟩
    · go_enter Tryz.func8, Tryz.ntmps8
      go_wp2_with fail
      go_ret
      exact ⟨by have : ¬ n2 ≤ 10 := by omega
                simp, F0.out⟩
  · go_enter Tryz.func8, Tryz.ntmps8
    go_wp2_with fail
    go_ret
    exact ⟨by have : ¬ ys.length ≤ 20 := by omega
              simp, F0.out⟩

end Go.Proofs.YtfidioedjmjddaaGreat
