/-
  statute: Applies.
-/
import Derived.Test.YtahfpadaoobkfaaGreatDoorQS13
import Derived.Maps.OwnSet
namespace Go.Proofs.YtahfpadaoobkfaaGreatDoor
open Go.RowKit Go.Lib

/-- What Applies returns. -/
def Applied (c : Rb) (q : Qn) (w : World) (e : Ending) (w' : World) : Prop :=
  Fr [] w w' ∧ ((okB c q = false ∧ e = .returned (.tuple #[.slice none 0 0, .slice none 0 0, .int .i64 80])) ∨
    (okB c q = true ∧ ∃ v1 v2, e = .returned (.tuple #[v1, v2, .int .i64 0]) ∧ w'.ownsRow 0 3 1 v1 (factsOf c q).length (intC (factsOf c q)) ∧ w'.ownsRow 0 3 1 v2 (clausesOf c q).length (intC (clausesOf c q)) ∧ (∀ g, v1.ownBlock = some g → w.heap.size ≤ g) ∧ (∀ g, v2.ownBlock = some g → w.heap.size ≤ g ∧ v1.ownBlock ≠ some g)))

theorem valid_faB {c : Rb} (h : validB c = true) {i : Nat} (hi : i < c.fas.length) : faB c.fas[i] = true := by
  simp only [validB, Bool.and_eq_true, List.all_eq_true] at h
  exact h.2 _ (List.getElem_mem hi)
theorem valid_clB {c : Rb} {ys : List ClV} (h : validB c = true) (he : c.cls = ys.map (·.x)) {i : Nat} (hi : i < ys.length) : clB ys[i].x = true := by
  simp only [validB, Bool.and_eq_true, List.all_eq_true] at h
  exact h.1.1.2 _ (by rw [he]; exact List.mem_map_of_mem (List.getElem_mem hi))
theorem valid_lens {c : Rb} (h : validB c = true) : c.cls.length ≤ 20 ∧ c.rps.length ≤ 10 ∧ c.fas.length ≤ 20 := by
  simp only [validB, Bool.and_eq_true, decide_eq_true_eq] at h
  exact ⟨h.1.1.1.1.1, h.1.1.1.1.2, h.1.1.1.2⟩

set_option maxRecDepth 100000 in
set_option maxHeartbeats 8000000 in
theorem applies_c (vc vr vf : Value) (ys : List ClV) (c : Rb) (q : Qn) (w : World) (h : RbAt w vc vr vf ys c) : Calls Tryz.prog 126 #[rbV vc vr vf, qnV q] w (Applied c q w) := by
  obtain ⟨ac, pc, rfl⟩ := h.cls.sl.val
  obtain ⟨ar, pr, rfl⟩ := h.rps.val
  obtain ⟨af, pf, rfl⟩ := h.fas.val
  have hcl : c.cls.length = ys.length := by rw [h.eq]; simp
  obtain ⟨th, sa, at_, kn⟩ := q
  have A2 := alloc2' w (.cells #[.slice ac ys.length pc, .slice ar c.rps.length pr, .slice af c.fas.length pf] 36) (.cells #[.int .i64 th, .int .i64 sa, .int .i64 at_, .int .i64 kn] 142)
  have F2 : Fr [] w ((w.alloc (.cells #[.slice ac ys.length pc, .slice ar c.rps.length pr, .slice af c.fas.length pf] 36)).alloc (.cells #[.int .i64 th, .int .i64 sa, .int .i64 at_, .int .i64 kn] 142)) := (Fr.alloc _ _ _).trans (Fr.alloc _ _ _)
  have h2 := h.same F2
  have CV := Lib.hid (valid_c _ _ _ ys c _ h2)
  have CA := Lib.hid (fun W => asks_c ⟨th, sa, at_, kn⟩ W)
  have HA := Lib.hid A2; have HF := Lib.hid F2; have HR := Lib.hid h2; clear A2 F2 h h2
  have hsz : ((w.alloc (.cells #[.slice ac ys.length pc, .slice ar c.rps.length pr, .slice af c.fas.length pf] 36)).alloc (.cells #[.int .i64 th, .int .i64 sa, .int .i64 at_, .int .i64 kn] 142)).heap.size = w.heap.size + 2 := by simp
  cases hv : validB c with
  | false =>
    have ho : okB c ⟨th, sa, at_, kn⟩ = false := by simp [okB, hv]
    rw [hv] at CV
    unfold rbV qnV
    simp only
    go_enter Tryz.func126, Tryz.ntmps126
    go_wp2_with (first | (go_at_call 89; refine CV.out.mono ?_; rintro e w1 ⟨rfl, f1⟩; have F1 := Lib.hid f1; clear f1))
    go_ret3
    exact ⟨HF.out.trans F1.out, .inl ⟨ho, rfl⟩⟩
  | true =>
    rw [hv] at CV
    cases hk : asksB ⟨th, sa, at_, kn⟩ with
    | false =>
      have ho : okB c ⟨th, sa, at_, kn⟩ = false := by simp [okB, hk]
      rw [hk] at CA
      unfold rbV qnV at *
      simp only at CA ⊢
      go_enter Tryz.func126, Tryz.ntmps126
      go_wp2_with fail
      refine CV.out.mono ?_
      rintro e w1 ⟨rfl, f1⟩
      have K1 := f1.keep HA.out.2 (by simp)
      have q0 : w1.cell? ⟨w.heap.size + 1, 0, none⟩ = some (.int .i64 th) := cell_of_blk K1 0
      have q1 : w1.cell? ⟨w.heap.size + 1, 1, none⟩ = some (.int .i64 sa) := cell_of_blk K1 1
      have q2 : w1.cell? ⟨w.heap.size + 1, 2, none⟩ = some (.int .i64 at_) := cell_of_blk K1 2
      have q3 : w1.cell? ⟨w.heap.size + 1, 3, none⟩ = some (.int .i64 kn) := cell_of_blk K1 3
      have F1 := Lib.hid f1; clear f1 K1
      go_wp2_with (first | (go_at_call 147; refine (CA.out _).mono ?_; rintro e w2 ⟨rfl, f2⟩; have F2 := Lib.hid f2; clear f2))
      go_ret3
      exact ⟨(HF.out.trans F1.out).trans F2.out, .inl ⟨ho, rfl⟩⟩
    | true =>
      have ho : okB c ⟨th, sa, at_, kn⟩ = true := by simp [okB, hv, hk]
      rw [hk] at CA
      have hlens := valid_lens hv
      rw [hcl] at hlens
      have HFB : Hid (∀ i, (hi : i < c.fas.length) → faB c.fas[i] = true) := Lib.hid fun i hi => valid_faB hv hi
      have HCB : Hid (∀ i, (hi : i < ys.length) → clB ys[i].x = true) := Lib.hid fun i hi => valid_clB hv HR.out.eq hi
      have HST : Hid (∀ (W : World) i, (hi : i < c.fas.length) → Calls Tryz.prog 148 #[faV c.fas[i], qnV ⟨th, sa, at_, kn⟩] W fun e w' => e = .returned (.bool ((fun i => statesB (c.fas.getD i default) (⟨th, sa, at_, kn⟩ : Qn)) i)) ∧ Fr [] W w') := Lib.hid fun W i hi => by
        have e : c.fas.getD i default = c.fas[i] := by simp [hi]
        simp only [e]
        exact states_c _ _ W (HFB.out i hi)
      have hfa : factsOf c ⟨th, sa, at_, kn⟩ = pickN (fun i => statesB (c.fas.getD i default) ⟨th, sa, at_, kn⟩) c.fas.length := rfl
      have hcla : clausesOf c ⟨th, sa, at_, kn⟩ = pickN (rulesB c ⟨th, sa, at_, kn⟩) ys.length := by rw [clausesOf, hcl]
      have HRU : Hid (∀ (W : World) (i : Nat) (hi : i < ys.length), Fr [] ((w.alloc (.cells #[.slice ac ys.length pc, .slice ar c.rps.length pr, .slice af c.fas.length pf] 36)).alloc (.cells #[.int .i64 th, .int .i64 sa, .int .i64 at_, .int .i64 kn] 142)) W → Calls Tryz.prog 150 #[.agg #[.slice ac ys.length pc, .slice ar c.rps.length pr, .slice af c.fas.length pf], .int .i64 i, .agg #[.int .i64 th, .int .i64 sa, .int .i64 at_, .int .i64 kn]] W fun e w' => e = .returned (.bool (rulesB c ⟨th, sa, at_, kn⟩ i)) ∧ Fr [] W w') := Lib.hid fun W i hi hf => rules_c _ _ _ ys c i ⟨th, sa, at_, kn⟩ W (HR.out.same hf) hi (HCB.out i hi)
      unfold Applied
      rw [hfa, hcla]
      generalize (fun i => statesB (c.fas.getD i default) (⟨th, sa, at_, kn⟩ : Qn)) = pF at *
      generalize hpC : rulesB c (⟨th, sa, at_, kn⟩ : Qn) = pC at *
      unfold rbV qnV at *
      simp only at CA ⊢
      clear hfa hcla
      generalize hW2 : (w.alloc (.cells #[.slice ac ys.length pc, .slice ar c.rps.length pr, .slice af c.fas.length pf] 36)).alloc (.cells #[.int .i64 th, .int .i64 sa, .int .i64 at_, .int .i64 kn] 142) = W2 at *
      have HW2 := Lib.hid hW2; clear hW2
      go_enter Tryz.func126, Tryz.ntmps126
      go_wp2_with fail
      rw [HW2.out]
      refine CV.out.mono ?_
      rintro e w1 ⟨rfl, f1⟩
      have K1 := f1.keep HA.out.2 (by simp)
      have K0 := f1.keep HA.out.1 (by simp)
      have q0 : w1.cell? ⟨w.heap.size + 1, 0, none⟩ = some (.int .i64 th) := cell_of_blk K1 0
      have q1 : w1.cell? ⟨w.heap.size + 1, 1, none⟩ = some (.int .i64 sa) := cell_of_blk K1 1
      have q2 : w1.cell? ⟨w.heap.size + 1, 2, none⟩ = some (.int .i64 at_) := cell_of_blk K1 2
      have q3 : w1.cell? ⟨w.heap.size + 1, 3, none⟩ = some (.int .i64 kn) := cell_of_blk K1 3
      have F1 := Lib.hid f1
      have KK0 := Lib.hid K0; have KK1 := Lib.hid K1
      clear f1 K1 K0
      go_wp2_with (first | (go_at_call 147; refine (CA.out _).mono ?_; rintro e w2 ⟨rfl, f2⟩; have K2 := f2.keep KK0.out (by simp); have c2 : w2.cell? ⟨w.heap.size, 2, none⟩ = some (.slice af c.fas.length pf) := cell_of_blk K2 2; have F2 := Lib.hid (F1.out.trans f2); clear f2 K2))
      clear q0 q1 q2 q3 KK0 KK1 F1 c2
      go_loopw [7, 23] (fun v i wr => ∃ k : Nat, k ≤ c.fas.length ∧ i = .int .i64 k ∧ Hid (PickAt W2 pF k v wr)) (fun _ i _ => c.fas.length - (intOf i).toNat)
      case atStart => exact ⟨0, Nat.zero_le _, rfl, Lib.hid ⟨F2.out, (PickAt.start w2 pF).row, (PickAt.start W2 pF).new⟩⟩
      case round =>
        obtain ⟨k, hk, rfl, HP⟩ := hrel
        obtain ⟨va, vp, rfl⟩ := (sl_of_row HP.out.row).val
        by_cases hlt : k < c.fas.length
        · obtain ⟨b, off, haf, hc⟩ := (HR.out.same HP.out.fr).fas.at_ (by omega)
          subst haf
          have d0 := hc (k * 6 + 0) _ ((flat_get (enc := faC) (k := 6) (fun _ => rfl) c.fas k hlt 0 (by omega)).trans rfl)
          have d1 := hc (k * 6 + 1) _ ((flat_get (enc := faC) (k := 6) (fun _ => rfl) c.fas k hlt 1 (by omega)).trans rfl)
          have d2 := hc (k * 6 + 2) _ ((flat_get (enc := faC) (k := 6) (fun _ => rfl) c.fas k hlt 2 (by omega)).trans rfl)
          have d3 := hc (k * 6 + 3) _ ((flat_get (enc := faC) (k := 6) (fun _ => rfl) c.fas k hlt 3 (by omega)).trans rfl)
          have d4 := hc (k * 6 + 4) _ ((flat_get (enc := faC) (k := 6) (fun _ => rfl) c.fas k hlt 4 (by omega)).trans rfl)
          have d5 := hc (k * 6 + 5) _ ((flat_get (enc := faC) (k := 6) (fun _ => rfl) c.fas k hlt 5 (by omega)).trans rfl)
          simp only [Nat.add_zero, ← Nat.add_assoc] at d0 d1 d2 d3 d4 d5
          clear hc
          have CS : Hid (∀ W, Calls Tryz.prog 148 #[faV c.fas[k], .agg #[.int .i64 th, .int .i64 sa, .int .i64 at_, .int .i64 kn]] W fun e w' => e = .returned (.bool (pF k)) ∧ Fr [] W w') := Lib.hid fun W => HST.out W k hlt
          generalize c.fas[k] = x at *
          obtain ⟨x0, x1, x2, x3, x4, x5⟩ := x
          unfold faV at CS
          simp only at d0 d1 d2 d3 d4 d5 CS
          have Kq := (HP.out.fr.trans (Fr.alloc [] wr (.cells #[.int .i64 x0, .int .i64 x1, .int .i64 x2, .int .i64 x3, .int .i64 x4, .int .i64 x5] 93))).keep HA.out.2 (by simp)
          have q0 : (wr.alloc (.cells #[.int .i64 x0, .int .i64 x1, .int .i64 x2, .int .i64 x3, .int .i64 x4, .int .i64 x5] 93)).cell? ⟨w.heap.size + 1, 0, none⟩ = some (.int .i64 th) := cell_of_blk Kq 0
          have q1 : (wr.alloc (.cells #[.int .i64 x0, .int .i64 x1, .int .i64 x2, .int .i64 x3, .int .i64 x4, .int .i64 x5] 93)).cell? ⟨w.heap.size + 1, 1, none⟩ = some (.int .i64 sa) := cell_of_blk Kq 1
          have q2 : (wr.alloc (.cells #[.int .i64 x0, .int .i64 x1, .int .i64 x2, .int .i64 x3, .int .i64 x4, .int .i64 x5] 93)).cell? ⟨w.heap.size + 1, 2, none⟩ = some (.int .i64 at_) := cell_of_blk Kq 2
          have q3 : (wr.alloc (.cells #[.int .i64 x0, .int .i64 x1, .int .i64 x2, .int .i64 x3, .int .i64 x4, .int .i64 x5] 93)).cell? ⟨w.heap.size + 1, 3, none⟩ = some (.int .i64 kn) := cell_of_blk Kq 3
          clear Kq
          go_wp2_with fail
          refine (CS.out _).mono ?_
          rintro e w3 ⟨rfl, f3⟩
          have P3 := Lib.hid (HP.out.same ((Fr.alloc [] _ _).trans f3)); clear f3
          cases hp : pF k
          · go_wp2_with fail
            go_roundw
            case rel => exact ⟨k + 1, by omega, by go_num, Lib.hid (P3.out.skip hp)⟩
            case measure => simp [intOf]; omega
          · have CI := Lib.hid ((P3.out.same (Fr.alloc [] w3 (.cells #[.int .i64 k] 3))).insert hp (by omega) (srcAt_one w3 (.int .i64 k) 3))
            go_wp2_with (first | (go_at_call 149; refine CI.out.mono ?_; rintro e w4 ⟨v4, rfl, p4, f4⟩; have P4 := Lib.hid p4; clear p4 f4))
            go_roundw
            case rel => exact ⟨k + 1, by omega, by go_num, P4⟩
            case measure => simp [intOf]; omega
        · obtain rfl : k = c.fas.length := by omega
          have K0 := HP.out.fr.keep HA.out.1 (by simp)
          have c0 : wr.cell? ⟨w.heap.size, 0, none⟩ = some (.slice ac ys.length pc) := cell_of_blk K0 0
          clear K0
          obtain ⟨w5, hw5⟩ : ∃ w5, w5 = wr := ⟨wr, rfl⟩
          subst hw5
          go_wp2_with fail
          clear c0
          go_loopw [8, 39] (fun v i wr => ∃ k : Nat, k ≤ ys.length ∧ i = .int .i64 k ∧ Hid (PickAt w5 pC k v wr)) (fun _ i _ => ys.length - (intOf i).toNat)
          case atStart => exact ⟨0, Nat.zero_le _, rfl, Lib.hid (PickAt.start w5 pC)⟩
          case round =>
            obtain ⟨k, hk, rfl, HC⟩ := hrel
            obtain ⟨ua, up, rfl⟩ := (sl_of_row HC.out.row).val
            by_cases hlt : k < ys.length
            · have hf := HP.out.fr.trans HC.out.fr
              have K0 := hf.keep HA.out.1 (by simp)
              have Kq := hf.keep HA.out.2 (by simp)
              have c0 : wr.cell? ⟨w.heap.size, 0, none⟩ = some (.slice ac ys.length pc) := cell_of_blk K0 0
              have c1 : wr.cell? ⟨w.heap.size, 1, none⟩ = some (.slice ar c.rps.length pr) := cell_of_blk K0 1
              have c2 : wr.cell? ⟨w.heap.size, 2, none⟩ = some (.slice af c.fas.length pf) := cell_of_blk K0 2
              have q0 : wr.cell? ⟨w.heap.size + 1, 0, none⟩ = some (.int .i64 th) := cell_of_blk Kq 0
              have q1 : wr.cell? ⟨w.heap.size + 1, 1, none⟩ = some (.int .i64 sa) := cell_of_blk Kq 1
              have q2 : wr.cell? ⟨w.heap.size + 1, 2, none⟩ = some (.int .i64 at_) := cell_of_blk Kq 2
              have q3 : wr.cell? ⟨w.heap.size + 1, 3, none⟩ = some (.int .i64 kn) := cell_of_blk Kq 3
              have CR := Lib.hid (HRU.out wr k hlt hf)
              clear K0 Kq hf
              go_wp2_with fail
              refine CR.out.mono ?_
              rintro e w3 ⟨rfl, f3⟩
              have P3 := Lib.hid (HC.out.same f3); clear f3
              cases hp : pC k
              · go_wp2_with fail
                go_roundw
                case rel => exact ⟨k + 1, by omega, by go_num, Lib.hid (P3.out.skip hp)⟩
                case measure => simp [intOf]; omega
              · have CI := Lib.hid ((P3.out.same (Fr.alloc [] w3 (.cells #[.int .i64 k] 3))).insert hp (by omega) (srcAt_one w3 (.int .i64 k) 3))
                go_wp2_with (first | (go_at_call 149; refine CI.out.mono ?_; rintro e w4 ⟨v4, rfl, p4, f4⟩; have P4 := Lib.hid p4; clear p4 f4))
                go_roundw
                case rel => exact ⟨k + 1, by omega, by go_num, P4⟩
                case measure => simp [intOf]; omega
            · obtain rfl : k = ys.length := by omega
              go_wp2_with fail
              go_ret3
              have hw2 : w.heap.size ≤ W2.heap.size := HF.out.size
              refine ⟨(HF.out.trans HP.out.fr).trans HC.out.fr, .inr ⟨ho, _, _, rfl, ?_, HC.out.row, fun g hg => Nat.le_trans hw2 (HP.out.new g hg), fun g hg => ⟨?_, fun h1 => ?_⟩⟩⟩
              · exact ownsRow_keep HP.out.row (fun g hg => HC.out.fr.block g (ownsRow_lt HP.out.row hg) (by simp))
              · exact Nat.le_trans (Nat.le_trans hw2 HP.out.fr.size) (HC.out.new g hg)
              · have h2 := ownsRow_lt HP.out.row h1
                have h3 := HC.out.new g hg
                omega

end Go.Proofs.YtahfpadaoobkfaaGreatDoor

/-
  statute: a judge in memory, with the map of what was found.
-/
namespace Go.Proofs.YtahfpadaoobkfaaGreatDoor
open Go.RowKit Go.Lib Go.Maps

def fdD (x : Fd) : DataW Unit := .agg [.lit (.int .i64 x.says), .lit (.bool x.holds), .lit (.int .i64 x.fact), .lit (.int .i64 x.cl)]
def fdR (v : Value) : Option (DataW Unit × List MemPlace) := match v with
  | .agg ⟨[.int .i64 a, .bool b, .int .i64 c, .int .i64 d]⟩ => some (fdD ⟨a, b, c, d⟩, [])
  | _ => none
theorem fdR_mk (x : Fd) : fdR (fdV x) = some (fdD x, []) := rfl
theorem fdR_inv {v : Value} {z : DataW Unit × List MemPlace} (h : fdR v = some z) : ∃ x, v = fdV x ∧ z = (fdD x, []) := by
  unfold fdR at h
  split at h
  · cases h; exact ⟨_, rfl, rfl⟩
  · cases h
theorem fdD_inj {x y : Fd} (h : fdD x = fdD y) : x = y := by
  obtain ⟨a, b, c, d⟩ := x
  obtain ⟨a', b', c', d'⟩ := y
  simp only [fdD, DataW.agg.injEq, List.cons.injEq, DataW.lit.injEq, Lit.int.injEq, Lit.bool.injEq, and_true, true_and] at h
  obtain ⟨rfl, rfl, rfl, rfl⟩ := h
  rfl

abbrev kL (k : Int) : Lit := .int .i64 k
theorem keyedI : Keyed Tryz.prog 3 := int_keyed Tryz.underlying3
theorem zeroFd (w : World) : (zeroValue 98).run Tryz.prog w = .ok (fdV ⟨0, false, 0, 0⟩) w := by kernel_rfl
theorem keyI {k : Int} (h : I64 k) : keyOf Tryz.prog 3 (.int .i64 k) = some (kL k) := keyOf_int_mk Tryz.underlying3 (Go.WalkArith.wf_i64 (by omega))
theorem kL_key (k : Int) : WideAt.IsKeyLit (kL k) := by simp [WideAt.IsKeyLit]
theorem kL_ne {a b : Int} (h : a ≠ b) : kL a ≠ kL b := by simpa using h

/-- How many of the first n numbers are keys. -/
def cntD (D : DataW Unit) (n : Nat) : Nat := ((List.range n).filter fun (k : Nat) => Maps.has D (kL k)).length
theorem cntD_le (D : DataW Unit) (n : Nat) : cntD D n ≤ n := by
  have := List.length_filter_le (fun (k : Nat) => Maps.has D (kL k)) (List.range n)
  simpa [cntD] using this
theorem cntD_put {D D' : DataW Unit} {m : Nat} (h0 : Maps.has D (kL m) = false) (h1 : Maps.has D' (kL m) = true) (h2 : ∀ k : Nat, k ≠ m → Maps.has D' (kL k) = Maps.has D (kL k)) : ∀ n, cntD D' n = cntD D n + if m < n then 1 else 0
  | 0 => by simp [cntD]
  | n + 1 => by
    have ih := cntD_put h0 h1 h2 n
    unfold cntD at ih ⊢
    rw [List.range_succ, List.filter_append, List.filter_append, List.length_append, List.length_append, ih]
    by_cases hn : n = m
    · subst hn
      simp [h0, h1]
    · have e := h2 n hn
      by_cases hm : m < n
      · simp only [List.filter_cons, e, List.filter_nil, hm, if_true, show m < n + 1 by omega]; omega
      · simp only [List.filter_cons, e, List.filter_nil, hm, if_false, show ¬ m < n + 1 by omega]; omega

/-- The map of what was found holds only what is right. -/
structure FoundAt (w : World) (bm : Nat) (f : Int → Fd) (D : DataW Unit) : Prop where
  own : w.ownsMap Tryz.prog 3 fdR bm (cntD D 20) D
  ok : ∀ k : Nat, k < 20 → Maps.has D (kL k) = true → D.atKey (kL k) (fdD ⟨0, false, 0, 0⟩) = fdD (f k)

theorem FoundAt.map {w : World} {bm : Nat} {f : Int → Fd} {D : DataW Unit} (h : FoundAt w bm f D) : ∃ es ck, w.heap[bm]? = some (.map es ck) := by
  obtain ⟨es, ck, hb, _⟩ := h.own
  exact ⟨es, ck, hb⟩
theorem FoundAt.fr {w w' : World} {bm : Nat} {f : Int → Fd} {D : DataW Unit} (h : FoundAt w bm f D) (hf : Fr [] w w') : FoundAt w' bm f D := by
  obtain ⟨es, ck, hb, F, hs, hD⟩ := h.own
  exact ⟨⟨es, ck, hf.keep hb (by simp), F, hs, hD⟩, h.ok⟩
theorem FoundAt.fr' {w w' : World} {bm : Nat} {f : Int → Fd} {D : DataW Unit} {S : List Nat} (h : FoundAt w bm f D) (hf : Fr S w w') (hn : bm ∉ S) : FoundAt w' bm f D := by
  obtain ⟨es, ck, hb, F, hs, hD⟩ := h.own
  exact ⟨⟨es, ck, hf.keep hb hn, F, hs, hD⟩, h.ok⟩

theorem FoundAt.look {w : World} {bm : Nat} {f : Int → Fd} {D : DataW Unit} (h : FoundAt w bm f D) (k : Nat) (hk : k < 20) :
    ∃ x, (Instr.lookup 220 (.map (some bm)) (.int .i64 k) true).run Tryz.prog w = .ok (.tuple #[fdV x, .bool (Maps.has D (kL k))]) w ∧ (Maps.has D (kL k) = true → x = f k) := by
  obtain ⟨v, ps, hrun, hv⟩ := h.own.look_ok keyedI Tryz.underlying220 (zeroFd w) (fdR_mk _) (keyI (k := k) (by constructor <;> omega))
  obtain ⟨x, rfl, hx⟩ := fdR_inv hv
  refine ⟨x, hrun, fun hh => fdD_inj ?_⟩
  rw [← h.ok k hk hh]
  exact (congrArg Prod.fst hx).symm
theorem FoundAt.get {w : World} {bm : Nat} {f : Int → Fd} {D : DataW Unit} (h : FoundAt w bm f D) (k : Nat) (hk : k < 20) (hh : Maps.has D (kL k) = true) :
    (Instr.lookup 220 (.map (some bm)) (.int .i64 k) false).run Tryz.prog w = .ok (fdV (f k)) w := by
  obtain ⟨v, ps, hrun, hv⟩ := h.own.lookup keyedI Tryz.underlying220 (zeroFd w) (fdR_mk _) (keyI (k := k) (by constructor <;> omega))
  obtain ⟨x, rfl, hx⟩ := fdR_inv hv
  have : x = f k := fdD_inj (by rw [← h.ok k hk hh]; exact (congrArg Prod.fst hx).symm)
  rw [← this]
  exact hrun

theorem FoundAt.put {w : World} {bm : Nat} {f : Int → Fd} {D : DataW Unit} (h : FoundAt w bm f D) (k : Nat) (hk : k < 20) (hh : Maps.has D (kL k) = false) :
    ∃ w' D', (Instr.mapUpdate 220 (.map (some bm)) (.int .i64 k) (fdV (f k))).run Tryz.prog w = .ok () w' ∧ FoundAt w' bm f D' ∧ Fr [bm] w w' ∧ Maps.has D' (kL k) = true ∧ ∀ j : Nat, j ≠ k → Maps.has D' (kL j) = Maps.has D (kL j) := by
  have hc := cntD_le D 20
  obtain ⟨w', hrun, h1, h2⟩ := h.own.update keyedI Tryz.underlying220 (by simp only [maxLen]; omega) (keyI (k := k) (by constructor <;> omega)) (fdR_mk (f k))
  have hs : Maps.has (D.put (kL k) (fdD (f k))) (kL k) = true := Maps.has_put_same h.own.isMap (kL_key _) _
  have ho : ∀ j : Nat, j ≠ k → Maps.has (D.put (kL k) (fdD (f k))) (kL j) = Maps.has D (kL j) := fun j hj => Maps.has_put_other (kL_ne (by omega)) _
  refine ⟨w', _, hrun, ⟨?_, fun j hj hh2 => ?_⟩, Fr.grown h2 fun q hq => by cases hq; simp, hs, ho⟩
  · rw [cntD_put hh hs ho 20, if_pos hk]
    exact h1
  · by_cases hjk : j = k
    · subst hjk
      exact Maps.atKey_put_same h.own.isMap (kL_key _) _ _
    · rw [Maps.atKey_put_other (kL_ne (by omega))]
      exact h.ok j hj (by rw [← ho j hjk]; exact hh2)

/-- Slices stay what they are while a map is written. -/
theorem cell_map {w : World} {b : Nat} {es : Array MapEntry} {ck : Nat} (h : w.heap[b]? = some (.map es ck)) (i : Nat) : w.cell? ⟨b, i, none⟩ = none := by simp [World.cell?, h]
theorem Sl.frM {w w' : World} {v : Value} {n bm : Nat} {cs : List Value} (h : Sl w v n cs) (hf : Fr [bm] w w') (hm : ∃ es ck, w.heap[bm]? = some (.map es ck)) : Sl w' v n cs := by
  obtain ⟨es, ck, hm⟩ := hm
  obtain ⟨a, cap, rfl, h1, h2, h3⟩ := h
  refine ⟨a, cap, rfl, h1, h2, fun h0 => ?_⟩
  obtain ⟨b, off, rfl, hc⟩ := h3 h0
  refine ⟨b, off, rfl, fun j u hu => ?_⟩
  have := hc j u hu
  have hne : b ≠ bm := fun e => by subst e; rw [cell_map hm] at this; cases this
  exact (World.cell?_of_block (hf.block b (World.block_lt_of_cell? w _ this) (by simpa using hne))).trans this
theorem RbAt.frM {w w' : World} {vc vr vf : Value} {ys : List ClV} {c : Rb} {bm : Nat} (h : RbAt w vc vr vf ys c) (hf : Fr [bm] w w') (hm : ∃ es ck, w.heap[bm]? = some (.map es ck)) : RbAt w' vc vr vf ys c :=
  ⟨h.eq, ⟨h.cls.sl.frM hf hm, fun y hy => (h.cls.needs y hy).frM hf hm, fun y hy => (h.cls.bars y hy).frM hf hm⟩, h.rps.frM hf hm, h.fas.frM hf hm, h.ok⟩

/-- The judge's names. -/
structure Jn where
  bj : Nat
  bm : Nat
  vc : Value
  vr : Value
  vf : Value
  v1 : Value
  v2 : Value
  ys : List ClV
  c : Rb
  fs : List Int
  cs : List Int
def Jn.fd (J : Jn) : Int → Fd := fdOf J.c J.fs J.cs
def Jn.so (J : Jn) : Int → Bool := soB J.c J.fs J.cs

/-- The judge itself. -/
structure JS (J : Jn) (w : World) : Prop where
  str : w.heap[J.bj]? = some (.cells #[J.vc, J.vr, J.vf, J.v1, J.v2, .map (some J.bm)] 222 (0, 0))
  rb : RbAt w J.vc J.vr J.vf J.ys J.c
  f : IntsAt w J.v1 J.fs
  c : IntsAt w J.v2 J.cs
  valid : validB J.c = true
  good : Good J.c J.fs J.cs
  fsub : ∀ i, i ∈ J.fs → 0 ≤ i ∧ i < J.c.fas.length
  csub : ∀ i, i ∈ J.cs → 0 ≤ i ∧ i < J.ys.length

theorem JS.frM {J : Jn} {w w' : World} (h : JS J w) (hf : Fr [J.bm] w w') (hm : ∃ es ck, w.heap[J.bm]? = some (.map es ck)) : JS J w' := by
  have hne : J.bj ≠ J.bm := fun e => by
    obtain ⟨es, ck, hm⟩ := hm
    have := h.str
    rw [e, hm] at this
    cases this
  exact ⟨hf.keep h.str (by simpa using hne), h.rb.frM hf hm, h.f.frM hf hm, h.c.frM hf hm, h.valid, h.good, h.fsub, h.csub⟩
theorem JS.same {J : Jn} {w w' : World} (h : JS J w) (hf : Fr [] w w') : JS J w' :=
  ⟨hf.keep h.str (by simp), h.rb.same hf, h.f.same hf, h.c.same hf, h.valid, h.good, h.fsub, h.csub⟩

/-- The judge with what it has found: between the worlds w0 and w, only numbers below n may have come. -/
structure JM (J : Jn) (n : Int) (w0 : World) (D0 : DataW Unit) (w : World) (D : DataW Unit) : Prop where
  js : JS J w
  found : FoundAt w J.bm J.fd D
  fr : Fr [J.bm] w0 w
  mono : ∀ k : Nat, k < 20 → Maps.has D0 (kL k) = true → Maps.has D (kL k) = true
  up : ∀ k : Nat, n ≤ k → k < 20 → Maps.has D (kL k) = Maps.has D0 (kL k)
theorem JM.refl {J : Jn} {n : Int} {w : World} {D : DataW Unit} (h1 : JS J w) (h2 : FoundAt w J.bm J.fd D) : JM J n w D w D := ⟨h1, h2, Fr.refl _ _, fun _ _ h => h, fun _ _ _ => rfl⟩
theorem JM.same {J : Jn} {n : Int} {w0 w w' : World} {D0 D : DataW Unit} (h : JM J n w0 D0 w D) (hf : Fr [] w w') : JM J n w0 D0 w' D := ⟨h.js.same hf, h.found.fr hf, h.fr.trans (hf.mono (by simp)), h.mono, h.up⟩
theorem JM.trans {J : Jn} {n m : Int} {w0 w1 w2 : World} {D0 D1 D2 : DataW Unit} (h : JM J n w0 D0 w1 D1) (k : JM J m w1 D1 w2 D2) (hm : m ≤ n) : JM J n w0 D0 w2 D2 :=
  ⟨k.js, k.found, h.fr.trans k.fr, fun j hj hh => k.mono j hj (h.mono j hj hh), fun j h1 h2 => (k.up j (by omega) h2).trans (h.up j h1 h2)⟩
theorem JM.from {J : Jn} {n : Int} {w0 w1 w2 : World} {D0 D1 : DataW Unit} (h : JM J n w1 D0 w2 D1) (hf : Fr [] w0 w1) : JM J n w0 D0 w2 D1 := ⟨h.js, h.found, (hf.mono (by simp)).trans h.fr, h.mono, h.up⟩

def SoOk (J : Jn) (n : Int) : Prop := ∀ (w : World) (D : DataW Unit), JS J w → FoundAt w J.bm J.fd D →
  Calls Tryz.prog 140 #[.pointer (some ⟨J.bj, 0, none⟩), .int .i64 n] w fun e w' => e = .returned (.bool (J.so n)) ∧ ∃ D', JM J (n + 1) w D w' D' ∧ Maps.has D' (kL n) = true
def FindOk (J : Jn) (n : Int) : Prop := ∀ (w : World) (D : DataW Unit), JS J w → FoundAt w J.bm J.fd D →
  Calls Tryz.prog 168 #[.pointer (some ⟨J.bj, 0, none⟩), .int .i64 n] w fun e w' => e = .returned (fdV (J.fd n)) ∧ ∃ D', JM J n w D w' D'

end Go.Proofs.YtahfpadaoobkfaaGreatDoor

/-
  statute: so, over find.
-/
namespace Go.Proofs.YtahfpadaoobkfaaGreatDoor
open Go.RowKit Go.Lib Go.Maps

set_option maxRecDepth 100000 in
set_option maxHeartbeats 4000000 in
theorem so_of_find (J : Jn) (n : Nat) (hn : n < 20) (hF : FindOk J n) : SoOk J n := by
  intro w D hJ hD
  have c5 : w.cell? ⟨J.bj, 5, none⟩ = some (.map (some J.bm)) := cell_of_blk hJ.str 5
  obtain ⟨x, hrun, hx⟩ := hD.look n hn
  have HJ := Lib.hid hJ; have HD := Lib.hid hD; have HF := Lib.hid hF; clear hJ hD hF
  cases hh : Maps.has D (kL n) with
  | true =>
    have hx := hx hh
    subst hx
    rw [hh] at hrun
    have hso : J.so n = (J.fd n).holds := rfl
    rw [hso]
    generalize J.fd n = x at *
    obtain ⟨x0, x1, x2, x3⟩ := x
    simp only [fdV] at hrun ⊢
    clear hso
    go_enter Tryz.func140, Tryz.ntmps140
    go_wp2_with fail
    go_ret
    exact ⟨rfl, D, (JM.refl HJ.out HD.out).same (Fr.alloc _ _ _), hh⟩
  | false =>
    rw [hh] at hrun
    clear hx
    obtain ⟨x0, x1, x2, x3⟩ := x
    simp only [fdV] at hrun
    have CF := Lib.hid (HF.out (w.alloc (.cells #[.int .i64 x0, .bool x1, .int .i64 x2, .int .i64 x3] 98)) D (HJ.out.same (Fr.alloc _ _ _)) (HD.out.fr (Fr.alloc _ _ _)))
    have hso : J.so n = (J.fd n).holds := rfl
    rw [hso]
    clear hso
    have Hfd : Hid (J.fd n = J.fd n) := Lib.hid rfl
    go_enter Tryz.func140, Tryz.ntmps140
    go_wp2_with fail
    refine CF.out.mono ?_
    rintro e w1 ⟨rfl, D1, j1⟩
    have hbm : J.bm < w.heap.size := HD.out.own.lt
    have hne : w.heap.size ≠ J.bm := by omega
    have K1 := j1.fr.keep (heap_alloc_new w (.cells #[.int .i64 x0, .bool x1, .int .i64 x2, .int .i64 x3] 98)) (by simpa using hne)
    have J1 := Lib.hid j1; have HK1 := Lib.hid K1
    have g0 : w1.cell? ⟨w.heap.size, 0, none⟩ = some (.int .i64 x0) := cell_of_blk K1 0
    have g1 : w1.cell? ⟨w.heap.size, 1, none⟩ = some (.bool x1) := cell_of_blk K1 1
    have g2 : w1.cell? ⟨w.heap.size, 2, none⟩ = some (.int .i64 x2) := cell_of_blk K1 2
    have g3 : w1.cell? ⟨w.heap.size, 3, none⟩ = some (.int .i64 x3) := cell_of_blk K1 3
    have z0 := free_of_blk K1 0
    have z1 := free_of_blk K1 1
    have z2 := free_of_blk K1 2
    have z3 := free_of_blk K1 3
    clear j1 K1
    go_wp2_with fail
    have f3 : Fr [w.heap.size] w1 ((((w1.setCell ⟨w.heap.size, 0, none⟩ (.int .i64 (J.fd n).says)).setCell ⟨w.heap.size, 1, none⟩ (.bool (J.fd n).holds)).setCell ⟨w.heap.size, 2, none⟩ (.int .i64 (J.fd n).fact)).setCell ⟨w.heap.size, 3, none⟩ (.int .i64 (J.fd n).cl)) := (((Fr.setCell _ _ (by simp)).trans (Fr.setCell _ _ (by simp))).trans (Fr.setCell _ _ (by simp))).trans (Fr.setCell _ _ (by simp))
    have K3 := heap_setCell_same (i := 3) (.int .i64 (J.fd n).cl) (heap_setCell_same (i := 2) (.int .i64 (J.fd n).fact) (heap_setCell_same (i := 1) (.bool (J.fd n).holds) (heap_setCell_same (i := 0) (.int .i64 (J.fd n).says) HK1.out)))
    generalize (((w1.setCell ⟨w.heap.size, 0, none⟩ (.int .i64 (J.fd n).says)).setCell ⟨w.heap.size, 1, none⟩ (.bool (J.fd n).holds)).setCell ⟨w.heap.size, 2, none⟩ (.int .i64 (J.fd n).fact)).setCell ⟨w.heap.size, 3, none⟩ (.int .i64 (J.fd n).cl) = W3 at *
    clear g0 g1 g2 g3 z0 z1 z2 z3 HK1 CF
    have k0 : W3.cell? ⟨w.heap.size, 0, none⟩ = some (.int .i64 (J.fd n).says) := cell_of_blk K3 0
    have k1 : W3.cell? ⟨w.heap.size, 1, none⟩ = some (.bool (J.fd n).holds) := cell_of_blk K3 1
    have k2 : W3.cell? ⟨w.heap.size, 2, none⟩ = some (.int .i64 (J.fd n).fact) := cell_of_blk K3 2
    have k3 : W3.cell? ⟨w.heap.size, 3, none⟩ = some (.int .i64 (J.fd n).cl) := cell_of_blk K3 3
    have fw : Fr [J.bm] w W3 := ((Fr.alloc [J.bm] _ _).trans J1.out.fr).step f3 (fun i hi => by simp at hi; exact .inr (by omega))
    have js3 := HJ.out.frM fw HD.out.map
    have fd3 := J1.out.found.fr' f3 (by simp; omega)
    have hh1 : Maps.has D1 (kL n) = false := by rw [J1.out.up n (by omega) hn]; exact hh
    obtain ⟨w4, D4, hput, fd4, f4, has4, oth4⟩ := (fd3.fr (Fr.drew [] W3)).put n hn hh1
    have c5' : W3.cell? ⟨J.bj, 5, none⟩ = some (.map (some J.bm)) := cell_of_blk js3.str 5
    have K4 := f4.keep (w := W3.drew) K3 (by simpa using hne)
    have m1 : w4.cell? ⟨w.heap.size, 1, none⟩ = some (.bool (J.fd n).holds) := cell_of_blk K4 1
    have HE : Hid (JM J (n + 1) w D w4 D4 ∧ Maps.has D4 (kL n) = true) := Lib.hid ⟨⟨(js3.same (Fr.drew [] W3)).frM f4 (fd3.fr (Fr.drew [] W3)).map, fd4, fw.trans ((Fr.drew _ _).trans f4), fun k hk h1 => by
      by_cases hkn : k = n
      · subst hkn; exact has4
      · rw [oth4 k hkn]; exact J1.out.mono k hk h1, fun k h1 h2 => by
      rw [oth4 k (by omega)]; exact J1.out.up k (by omega) h2⟩, has4⟩
    clear js3 fd3 fd4 f4 oth4 K3 K4 fw f3 has4
    simp only [fdV] at hput
    obtain ⟨y, hy⟩ : ∃ y, J.fd n = y := ⟨_, rfl⟩
    rw [hy] at hput k0 k1 k2 k3 m1
    rw [hy]
    have HY := Lib.hid hy
    clear hy
    obtain ⟨y0, y1, y2, y3⟩ := y
    simp only at hput k0 k1 k2 k3 m1 ⊢
    go_region
    all_goals
      go_wp2_with fail
      go_ret
      exact ⟨by rw [HY.out]; rfl, D4, HE.out⟩

end Go.Proofs.YtahfpadaoobkfaaGreatDoor
