/-
  digest: Chain.
-/
import Derived.Test.YtklmefkbkphceaaDoorQShX
namespace Go.Proofs.YtklmefkbkphceaaDoor
open Go.RowKit Go.Lib

theorem marked_c (m : ByteArray) (w : World) : Calls Tryd.prog 64 #[.string m] w fun e w' => e = .returned (.func (.func 70) #[] #[.pointer (some ⟨w.heap.size, 0, none⟩)]) ∧ w' = w.alloc (.cells #[.string m] 9) := by
  go_enter Tryd.func64, Tryd.ntmps64
  go_wp2_with fail
  go_ret
  exact ⟨rfl, rfl⟩

theorem join2 (h r : ByteArray) : Lib.join ([h, r].map (·.data.toList)) (⟨#[]⟩ : ByteArray).data.toList = bts h ++ bts r := by simp [Lib.join, bts]

set_option maxRecDepth 100000 in
set_option maxHeartbeats 4000000 in
theorem marked1_c (m h r : ByteArray) (hs : m.size + h.size + r.size ≤ 1000000000000) (b mb : Nat) (w : World) (hR : RndAt w) (hm : w.heap[mb]? = some (.cells #[.string m] 9 (0, 0))) (hb : w.heap[b]? = some (.cells #[.string h, .string r] 9 (0, 0))) :
    Calls Tryd.prog 70 #[.slice (some ⟨b, 0, none⟩) 2 2, .pointer (some ⟨mb, 0, none⟩)] w fun e w' => e = .returned (.string (shaB (str (bts m ++ (bts h ++ bts r))))) ∧ Fr [] w w' := by
  have CJ : ∀ W : World, Fr [] w W → Calls Tryd.prog 72 #[.slice (some ⟨b, 0, none⟩) 2 2, .string ⟨#[]⟩] W fun e w' => e = .returned (.string (str (bts h ++ bts r))) ∧ Fr [] W w' := by
    intro W hf
    have hb2 := hf.keep hb (by simp)
    have h1 := Tryd.strings_Join b 0 2 [h, r] ⟨#[]⟩ W (by
      intro j x hx
      rw [cell_of_blk hb2]
      match j, hx with
      | 0, hx => simp at hx ⊢; exact hx
      | 1, hx => simp at hx ⊢; exact hx
      | j + 2, hx => simp at hx) (blk_lt hb2) (by simp) (by simp) (by rw [join2, List.length_append, bts_len, bts_len]; omega)
    rw [join2] at h1
    exact h1.mono fun e w' ⟨he, hbw⟩ => ⟨he, Fr.of_below [] hbw⟩
  have CS : ∀ W : World, Fr [] w W → Calls Tryd.prog 71 #[.string (str (bts m ++ (bts h ++ bts r)))] W fun e w' => e = .returned (.string (shaB (str (bts m ++ (bts h ++ bts r))))) ∧ Fr [] W w' := fun W hf =>
    sum_c _ (by rw [str_size]; simp only [List.length_append, bts_len]; omega) W (hR.same hf (by simp))
  have HJ := Lib.hid CJ; have HS := Lib.hid CS
  have c0 := cell_of_blk hm 0
  have hsz : (str (bts h ++ bts r)).size = h.size + r.size := by rw [str_size]; simp only [List.length_append, bts_len]
  have hcat : m ++ str (bts h ++ bts r) = str (bts m ++ (bts h ++ bts r)) := by
    apply ByteArray.ext; simp [str, bts]
  have HC := Lib.hid hcat
  have HZ := Lib.hid hsz
  clear CJ CS hm hb hR hsz hcat
  go_enter Tryd.func70, Tryd.ntmps70
  go_wp2_with fail
  refine reg_mix (Fr [] w) [0, 1, 2, 3, 4, 5] (by kernel_rfl) (by kernel_rfl) (by kernel_rfl) rfl (Fr.drew _ _) ?_
  have FC : Fr [] w w.drew := Fr.drew _ _
  generalize w.drew = WC at FC ⊢
  iterate 2 (refine mix_take1 (v := ?_) rfl rfl rfl rfl (fun w hS => ?_) ?_; rotate_left; (focus (have s0 := hS.cel c0 (by simp); clear hS; go_simp; rfl)); simp only [List.setIfInBounds_toArray, List.set_cons_succ, List.set_cons_zero])
  refine mix_do rfl rfl rfl (fun K hK => ?_)
  go_simp
  refine (HJ.out _ FC).mono ?_
  rintro e wq ⟨rfl, fq⟩
  have FC := FC.trans fq
  refine hK _ _ FC ?_
  clear hK K fq
  try simp only [Act.put, List.setIfInBounds_toArray, List.set_cons_succ, List.set_cons_zero]
  (refine mix_take1 (v := ?_) rfl rfl rfl rfl (fun w hS => ?_) ?_; rotate_left; (focus (clear hS; go_simp; rw [if_neg (by rw [HZ.out]; omega), HC.out])); simp only [List.setIfInBounds_toArray, List.set_cons_succ, List.set_cons_zero])
  refine mix_do rfl rfl rfl (fun K hK => ?_)
  go_simp
  refine (HS.out _ FC).mono ?_
  rintro e wr ⟨rfl, fq⟩
  have FC := FC.trans fq
  refine hK _ _ FC ?_
  clear hK K fq
  try simp only [Act.put, List.setIfInBounds_toArray, List.set_cons_succ, List.set_cons_zero]
  (refine mix_take1 (v := ?_) rfl rfl rfl rfl (fun w hS => ?_) ?_; rotate_left; (focus (clear hS; go_simp; rfl)); simp only [List.setIfInBounds_toArray, List.set_cons_succ, List.set_cons_zero])
  refine mix_end ?_
  have HF := Lib.hid FC
  clear FC c0
  go_wp2_with fail
  go_ret
  exact ⟨rfl, HF.out⟩

set_option maxRecDepth 100000 in
theorem chain_c (h r : ByteArray) (hs : h.size + r.size ≤ 900000000000) (w : World) (hR : RndAt w) : Calls Tryd.prog 53 #[.string h, .string r] w fun e w' => e = .returned (.string (chainM h r)) ∧ Fr [] w w' := by
  have HR := Lib.hid hR
  clear hR
  go_enter Tryd.func53, Tryd.ntmps53
  go_wp2_with fail
  refine (marked_c _ _).mono ?_
  rintro e w1 ⟨rfl, hw1⟩
  have F1 := Fr.alloc [] w (.cells #[.string ⟨#[2]⟩] 9)
  have B1 := heap_alloc_new w (.cells #[.string ⟨#[2]⟩] 9)
  rw [← hw1] at F1 B1
  have F2 := Fr.alloc [] w1 (.cells #[.string h, .string r] 9)
  have CM := Lib.hid (marked1_c ⟨#[2]⟩ h r (by show 1 + h.size + r.size ≤ _; omega) w1.heap.size w.heap.size _ (HR.out.same (F1.trans F2) (by simp)) (F2.keep B1 (by simp)) (heap_alloc_new _ _))
  have HF := Lib.hid (F1.trans F2)
  clear hw1 F1 B1 F2
  go_wp2_with fail
  refine CM.out.mono ?_
  rintro e w2 ⟨rfl, f2⟩
  have HF2 := Lib.hid (HF.out.trans f2)
  clear f2
  go_wp2_with fail
  go_ret
  exact ⟨rfl, HF2.out⟩

end Go.Proofs.YtklmefkbkphceaaDoor
