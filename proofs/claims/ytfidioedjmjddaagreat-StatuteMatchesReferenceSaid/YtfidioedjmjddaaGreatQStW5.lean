/-
  statute: Applies.
-/
import Derived.Test.YtfidioedjmjddaaGreatQStW4
namespace Go.Proofs.YtfidioedjmjddaaGreat
open Go.RowKit Go.Lib

/-- What Applies returns. -/
def Applied (c : Rb) (q : Qn) (w : World) (e : Ending) (w' : World) : Prop :=
  Fr [] w w' ∧ ((okB c q = false ∧ e = .returned (.tuple #[.slice none 0 0, .slice none 0 0, .int .i64 80])) ∨
    (okB c q = true ∧ ∃ v1 v2, e = .returned (.tuple #[v1, v2, .int .i64 0]) ∧ w'.ownsRow 0 3 1 v1 (factsOf c q).length (intC (factsOf c q)) ∧ w'.ownsRow 0 3 1 v2 (clausesOf c q).length (intC (clausesOf c q)) ∧ (∀ g, v1.ownBlock = some g → w.heap.size ≤ g) ∧ (∀ g, v2.ownBlock = some g → w.heap.size ≤ g ∧ v1.ownBlock ≠ some g)))

theorem valid_faB {c : Rb} (h : validB c = true) {i : Nat} (hi : i < c.fas.length) : faB c.fas[i] = true := by
  simp only [validB, Bool.and_eq_true, List.all_eq_true] at h
  exact h.2 _ (List.getElem_mem hi)
theorem valid_clB {c : Rb} {ys : List ClV} (h : validB c = true) (he : c.cls = ys.map (·.x)) {i : Nat} (hi : i < ys.length) : clB ys[i].x = true := by
  simp only [validB, Bool.and_eq_true, List.all_eq_true] at h
  exact h.1.1.2 _ (by rw [he]; exact List.mem_map_of_mem (List.getElem_mem hi))
theorem valid_lens {c : Rb} (h : validB c = true) : c.cls.length ≤ 20 ∧ c.rps.length ≤ 10 ∧ c.fas.length ≤ 20 := by
  simp only [validB, Bool.and_eq_true, decide_eq_true_eq] at h
  exact ⟨h.1.1.1.1.1, h.1.1.1.1.2, h.1.1.1.2⟩

set_option maxRecDepth 100000 in
set_option maxHeartbeats 8000000 in
theorem applies_c (vc vr vf : Value) (ys : List ClV) (c : Rb) (q : Qn) (w : World) (h : RbAt w vc vr vf ys c) : Calls Tryz.prog 13 #[rbV vc vr vf, qnV q] w (Applied c q w) := by
  obtain ⟨ac, pc, rfl⟩ := h.cls.sl.val
  obtain ⟨ar, pr, rfl⟩ := h.rps.val
  obtain ⟨af, pf, rfl⟩ := h.fas.val
  have hcl : c.cls.length = ys.length := by rw [h.eq]; simp
  obtain ⟨th, sa, at_, kn⟩ := q
  have A2 := alloc2' w (.cells #[.slice ac ys.length pc, .slice ar c.rps.length pr, .slice af c.fas.length pf] 30) (.cells #[.int .i64 th, .int .i64 sa, .int .i64 at_, .int .i64 kn] 33)
  have F2 : Fr [] w ((w.alloc (.cells #[.slice ac ys.length pc, .slice ar c.rps.length pr, .slice af c.fas.length pf] 30)).alloc (.cells #[.int .i64 th, .int .i64 sa, .int .i64 at_, .int .i64 kn] 33)) := (Fr.alloc _ _ _).trans (Fr.alloc _ _ _)
  have h2 := h.same F2
  have CV := Lib.hid (valid_c _ _ _ ys c _ h2)
  have CA := Lib.hid (fun W => asks_c ⟨th, sa, at_, kn⟩ W)
  have HA := Lib.hid A2; have HF := Lib.hid F2; have HR := Lib.hid h2; clear A2 F2 h h2
  have hsz : ((w.alloc (.cells #[.slice ac ys.length pc, .slice ar c.rps.length pr, .slice af c.fas.length pf] 30)).alloc (.cells #[.int .i64 th, .int .i64 sa, .int .i64 at_, .int .i64 kn] 33)).heap.size = w.heap.size + 2 := by simp
  cases hv : validB c with
  | false =>
    have ho : okB c ⟨th, sa, at_, kn⟩ = false := by simp [okB, hv]
    rw [hv] at CV
    unfold rbV qnV
    simp only
    go_enter Tryz.func13, Tryz.ntmps13
    go_wp2_with (first | (go_at_call 8; refine CV.out.mono ?_; rintro e w1 ⟨rfl, f1⟩; have F1 := Lib.hid f1; clear f1))
    go_ret3
    exact ⟨HF.out.trans F1.out, .inl ⟨ho, rfl⟩⟩
  | true =>
    rw [hv] at CV
    cases hk : asksB ⟨th, sa, at_, kn⟩ with
    | false =>
      have ho : okB c ⟨th, sa, at_, kn⟩ = false := by simp [okB, hk]
      rw [hk] at CA
      unfold rbV qnV at *
      simp only at CA ⊢
      go_enter Tryz.func13, Tryz.ntmps13
      go_wp2_with fail
      refine CV.out.mono ?_
      rintro e w1 ⟨rfl, f1⟩
      have K1 := f1.keep HA.out.2 (by simp)
      have q0 : w1.cell? ⟨w.heap.size + 1, 0, none⟩ = some (.int .i64 th) := cell_of_blk K1 0
      have q1 : w1.cell? ⟨w.heap.size + 1, 1, none⟩ = some (.int .i64 sa) := cell_of_blk K1 1
      have q2 : w1.cell? ⟨w.heap.size + 1, 2, none⟩ = some (.int .i64 at_) := cell_of_blk K1 2
      have q3 : w1.cell? ⟨w.heap.size + 1, 3, none⟩ = some (.int .i64 kn) := cell_of_blk K1 3
      have F1 := Lib.hid f1; clear f1 K1
      go_wp2_with (first | (go_at_call 15; refine (CA.out _).mono ?_; rintro e w2 ⟨rfl, f2⟩; have F2 := Lib.hid f2; clear f2))
      go_ret3
      exact ⟨(HF.out.trans F1.out).trans F2.out, .inl ⟨ho, rfl⟩⟩
    | true =>
      have ho : okB c ⟨th, sa, at_, kn⟩ = true := by simp [okB, hv, hk]
      rw [hk] at CA
      have hlens := valid_lens hv
      rw [hcl] at hlens
      have HFB : Hid (∀ i, (hi : i < c.fas.length) → faB c.fas[i] = true) := Lib.hid fun i hi => valid_faB hv hi
      have HCB : Hid (∀ i, (hi : i < ys.length) → clB ys[i].x = true) := Lib.hid fun i hi => valid_clB hv HR.out.eq hi
      have HST : Hid (∀ (W : World) i, (hi : i < c.fas.length) → Calls Tryz.prog 50 #[faV c.fas[i], qnV ⟨th, sa, at_, kn⟩] W fun e w' => e = .returned (.bool ((fun i => statesB (c.fas.getD i default) (⟨th, sa, at_, kn⟩ : Qn)) i)) ∧ Fr [] W w') := Lib.hid fun W i hi => by
        have e : c.fas.getD i default = c.fas[i] := by simp [hi]
        simp only [e]
        exact states_c _ _ W (HFB.out i hi)
      have hfa : factsOf c ⟨th, sa, at_, kn⟩ = pickN (fun i => statesB (c.fas.getD i default) ⟨th, sa, at_, kn⟩) c.fas.length := rfl
      have hcla : clausesOf c ⟨th, sa, at_, kn⟩ = pickN (rulesB c ⟨th, sa, at_, kn⟩) ys.length := by rw [clausesOf, hcl]
      have HRU : Hid (∀ (W : World) (i : Nat) (hi : i < ys.length), Fr [] ((w.alloc (.cells #[.slice ac ys.length pc, .slice ar c.rps.length pr, .slice af c.fas.length pf] 30)).alloc (.cells #[.int .i64 th, .int .i64 sa, .int .i64 at_, .int .i64 kn] 33)) W → Calls Tryz.prog 52 #[.agg #[.slice ac ys.length pc, .slice ar c.rps.length pr, .slice af c.fas.length pf], .int .i64 i, .agg #[.int .i64 th, .int .i64 sa, .int .i64 at_, .int .i64 kn]] W fun e w' => e = .returned (.bool (rulesB c ⟨th, sa, at_, kn⟩ i)) ∧ Fr [] W w') := Lib.hid fun W i hi hf => rules_c _ _ _ ys c i ⟨th, sa, at_, kn⟩ W (HR.out.same hf) hi (HCB.out i hi)
      unfold Applied
      rw [hfa, hcla]
      generalize (fun i => statesB (c.fas.getD i default) (⟨th, sa, at_, kn⟩ : Qn)) = pF at *
      generalize hpC : rulesB c (⟨th, sa, at_, kn⟩ : Qn) = pC at *
      unfold rbV qnV at *
      simp only at CA ⊢
      clear hfa hcla
      generalize hW2 : (w.alloc (.cells #[.slice ac ys.length pc, .slice ar c.rps.length pr, .slice af c.fas.length pf] 30)).alloc (.cells #[.int .i64 th, .int .i64 sa, .int .i64 at_, .int .i64 kn] 33) = W2 at *
      have HW2 := Lib.hid hW2; clear hW2
      go_enter Tryz.func13, Tryz.ntmps13
      go_wp2_with fail
      rw [HW2.out]
      refine CV.out.mono ?_
      rintro e w1 ⟨rfl, f1⟩
      have K1 := f1.keep HA.out.2 (by simp)
      have K0 := f1.keep HA.out.1 (by simp)
      have q0 : w1.cell? ⟨w.heap.size + 1, 0, none⟩ = some (.int .i64 th) := cell_of_blk K1 0
      have q1 : w1.cell? ⟨w.heap.size + 1, 1, none⟩ = some (.int .i64 sa) := cell_of_blk K1 1
      have q2 : w1.cell? ⟨w.heap.size + 1, 2, none⟩ = some (.int .i64 at_) := cell_of_blk K1 2
      have q3 : w1.cell? ⟨w.heap.size + 1, 3, none⟩ = some (.int .i64 kn) := cell_of_blk K1 3
      have F1 := Lib.hid f1
      have KK0 := Lib.hid K0; have KK1 := Lib.hid K1
      clear f1 K1 K0
      go_wp2_with (first | (go_at_call 15; refine (CA.out _).mono ?_; rintro e w2 ⟨rfl, f2⟩; have K2 := f2.keep KK0.out (by simp); have c2 : w2.cell? ⟨w.heap.size, 2, none⟩ = some (.slice af c.fas.length pf) := cell_of_blk K2 2; have F2 := Lib.hid (F1.out.trans f2); clear f2 K2))
      clear q0 q1 q2 q3 KK0 KK1 F1 c2
      go_loopw [7, 23] (fun v i wr => ∃ k : Nat, k ≤ c.fas.length ∧ i = .int .i64 k ∧ Hid (PickAt W2 pF k v wr)) (fun _ i _ => c.fas.length - (intOf i).toNat)
      case atStart => exact ⟨0, Nat.zero_le _, rfl, Lib.hid ⟨F2.out, (PickAt.start w2 pF).row, (PickAt.start W2 pF).new⟩⟩
      case round =>
        obtain ⟨k, hk, rfl, HP⟩ := hrel
        obtain ⟨va, vp, rfl⟩ := (sl_of_row HP.out.row).val
        by_cases hlt : k < c.fas.length
        · obtain ⟨b, off, haf, hc⟩ := (HR.out.same HP.out.fr).fas.at_ (by omega)
          subst haf
          have d0 := hc (k * 6 + 0) _ ((flat_get (enc := faC) (k := 6) (fun _ => rfl) c.fas k hlt 0 (by omega)).trans rfl)
          have d1 := hc (k * 6 + 1) _ ((flat_get (enc := faC) (k := 6) (fun _ => rfl) c.fas k hlt 1 (by omega)).trans rfl)
          have d2 := hc (k * 6 + 2) _ ((flat_get (enc := faC) (k := 6) (fun _ => rfl) c.fas k hlt 2 (by omega)).trans rfl)
          have d3 := hc (k * 6 + 3) _ ((flat_get (enc := faC) (k := 6) (fun _ => rfl) c.fas k hlt 3 (by omega)).trans rfl)
          have d4 := hc (k * 6 + 4) _ ((flat_get (enc := faC) (k := 6) (fun _ => rfl) c.fas k hlt 4 (by omega)).trans rfl)
          have d5 := hc (k * 6 + 5) _ ((flat_get (enc := faC) (k := 6) (fun _ => rfl) c.fas k hlt 5 (by omega)).trans rfl)
          simp only [Nat.add_zero, ← Nat.add_assoc] at d0 d1 d2 d3 d4 d5
          clear hc
          have CS : Hid (∀ W, Calls Tryz.prog 50 #[faV c.fas[k], .agg #[.int .i64 th, .int .i64 sa, .int .i64 at_, .int .i64 kn]] W fun e w' => e = .returned (.bool (pF k)) ∧ Fr [] W w') := Lib.hid fun W => HST.out W k hlt
          generalize c.fas[k] = x at *
          obtain ⟨x0, x1, x2, x3, x4, x5⟩ := x
          unfold faV at CS
          simp only at d0 d1 d2 d3 d4 d5 CS
          have Kq := (HP.out.fr.trans (Fr.alloc [] wr (.cells #[.int .i64 x0, .int .i64 x1, .int .i64 x2, .int .i64 x3, .int .i64 x4, .int .i64 x5] 74))).keep HA.out.2 (by simp)
          have q0 : (wr.alloc (.cells #[.int .i64 x0, .int .i64 x1, .int .i64 x2, .int .i64 x3, .int .i64 x4, .int .i64 x5] 74)).cell? ⟨w.heap.size + 1, 0, none⟩ = some (.int .i64 th) := cell_of_blk Kq 0
          have q1 : (wr.alloc (.cells #[.int .i64 x0, .int .i64 x1, .int .i64 x2, .int .i64 x3, .int .i64 x4, .int .i64 x5] 74)).cell? ⟨w.heap.size + 1, 1, none⟩ = some (.int .i64 sa) := cell_of_blk Kq 1
          have q2 : (wr.alloc (.cells #[.int .i64 x0, .int .i64 x1, .int .i64 x2, .int .i64 x3, .int .i64 x4, .int .i64 x5] 74)).cell? ⟨w.heap.size + 1, 2, none⟩ = some (.int .i64 at_) := cell_of_blk Kq 2
          have q3 : (wr.alloc (.cells #[.int .i64 x0, .int .i64 x1, .int .i64 x2, .int .i64 x3, .int .i64 x4, .int .i64 x5] 74)).cell? ⟨w.heap.size + 1, 3, none⟩ = some (.int .i64 kn) := cell_of_blk Kq 3
          clear Kq
          go_wp2_with fail
          refine (CS.out _).mono ?_
          rintro e w3 ⟨rfl, f3⟩
          have P3 := Lib.hid (HP.out.same ((Fr.alloc [] _ _).trans f3)); clear f3
          cases hp : pF k
          · go_wp2_with fail
            go_roundw
            case rel => exact ⟨k + 1, by omega, by go_num, Lib.hid (P3.out.skip hp)⟩
            case measure => simp [intOf]; omega
          · have CI := Lib.hid ((P3.out.same (Fr.alloc [] w3 (.cells #[.int .i64 k] 3))).insert hp (by omega) (srcAt_one w3 (.int .i64 k) 3))
            go_wp2_with (first | (go_at_call 51; refine CI.out.mono ?_; rintro e w4 ⟨v4, rfl, p4, f4⟩; have P4 := Lib.hid p4; clear p4 f4))
            go_roundw
            case rel => exact ⟨k + 1, by omega, by go_num, P4⟩
            case measure => simp [intOf]; omega
        · obtain rfl : k = c.fas.length := by omega
          have K0 := HP.out.fr.keep HA.out.1 (by simp)
          have c0 : wr.cell? ⟨w.heap.size, 0, none⟩ = some (.slice ac ys.length pc) := cell_of_blk K0 0
          clear K0
          obtain ⟨w5, hw5⟩ : ∃ w5, w5 = wr := ⟨wr, rfl⟩
          subst hw5
          go_wp2_with fail
          clear c0
          go_loopw [8, 39] (fun v i wr => ∃ k : Nat, k ≤ ys.length ∧ i = .int .i64 k ∧ Hid (PickAt w5 pC k v wr)) (fun _ i _ => ys.length - (intOf i).toNat)
          case atStart => exact ⟨0, Nat.zero_le _, rfl, Lib.hid (PickAt.start w5 pC)⟩
          case round =>
            obtain ⟨k, hk, rfl, HC⟩ := hrel
            obtain ⟨ua, up, rfl⟩ := (sl_of_row HC.out.row).val
            by_cases hlt : k < ys.length
            · have hf := HP.out.fr.trans HC.out.fr
              have K0 := hf.keep HA.out.1 (by simp)
              have Kq := hf.keep HA.out.2 (by simp)
              have c0 : wr.cell? ⟨w.heap.size, 0, none⟩ = some (.slice ac ys.length pc) := cell_of_blk K0 0
              have c1 : wr.cell? ⟨w.heap.size, 1, none⟩ = some (.slice ar c.rps.length pr) := cell_of_blk K0 1
              have c2 : wr.cell? ⟨w.heap.size, 2, none⟩ = some (.slice af c.fas.length pf) := cell_of_blk K0 2
              have q0 : wr.cell? ⟨w.heap.size + 1, 0, none⟩ = some (.int .i64 th) := cell_of_blk Kq 0
              have q1 : wr.cell? ⟨w.heap.size + 1, 1, none⟩ = some (.int .i64 sa) := cell_of_blk Kq 1
              have q2 : wr.cell? ⟨w.heap.size + 1, 2, none⟩ = some (.int .i64 at_) := cell_of_blk Kq 2
              have q3 : wr.cell? ⟨w.heap.size + 1, 3, none⟩ = some (.int .i64 kn) := cell_of_blk Kq 3
              have CR := Lib.hid (HRU.out wr k hlt hf)
              clear K0 Kq hf
              go_wp2_with fail
              refine CR.out.mono ?_
              rintro e w3 ⟨rfl, f3⟩
              have P3 := Lib.hid (HC.out.same f3); clear f3
              cases hp : pC k
              · go_wp2_with fail
                go_roundw
                case rel => exact ⟨k + 1, by omega, by go_num, Lib.hid (P3.out.skip hp)⟩
                case measure => simp [intOf]; omega
              · have CI := Lib.hid ((P3.out.same (Fr.alloc [] w3 (.cells #[.int .i64 k] 3))).insert hp (by omega) (srcAt_one w3 (.int .i64 k) 3))
                go_wp2_with (first | (go_at_call 51; refine CI.out.mono ?_; rintro e w4 ⟨v4, rfl, p4, f4⟩; have P4 := Lib.hid p4; clear p4 f4))
                go_roundw
                case rel => exact ⟨k + 1, by omega, by go_num, P4⟩
                case measure => simp [intOf]; omega
            · obtain rfl : k = ys.length := by omega
              go_wp2_with fail
              go_ret3
              have hw2 : w.heap.size ≤ W2.heap.size := HF.out.size
              refine ⟨(HF.out.trans HP.out.fr).trans HC.out.fr, .inr ⟨ho, _, _, rfl, ?_, HC.out.row, fun g hg => Nat.le_trans hw2 (HP.out.new g hg), fun g hg => ⟨?_, fun h1 => ?_⟩⟩⟩
              · exact ownsRow_keep HP.out.row (fun g hg => HC.out.fr.block g (ownsRow_lt HP.out.row hg) (by simp))
              · exact Nat.le_trans (Nat.le_trans hw2 HP.out.fr.size) (HC.out.new g hg)
              · have h2 := ownsRow_lt HP.out.row h1
                have h3 := HC.out.new g hg
                omega

end Go.Proofs.YtfidioedjmjddaaGreat
