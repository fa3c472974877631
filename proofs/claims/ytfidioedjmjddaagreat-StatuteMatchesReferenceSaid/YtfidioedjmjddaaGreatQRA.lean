/-
  Regions that draw: an operation whose guard was not carried out either.
-/
import Derived.Test.YtfidioedjmjddaaGreatQRg
import Derived.Test.YtfidioedjmjddaaGreatQBa
import Derived.Test.YtfidioedjmjddaaGreatQSB
import Derived.Test.YtfidioedjmjddaaGreatQLw
import Derived.Test.YtfidioedjmjddaaGreatQL8
namespace Go.Proofs.YtfidioedjmjddaaGreat
theorem Fr.cel {fp : List Nat} {w W : World} {b i : Nat} {v : Value} (h : Fr fp w W) (hc : w.cell? ⟨b, i, none⟩ = some v) (hn : b ∉ fp) : W.cell? ⟨b, i, none⟩ = some v :=
  (World.cell?_of_block (h.block b (World.block_lt_of_cell? w _ hc) hn)).trans hc
section
variable {P : Program} {ops : Array Oper} {Q : Exit → Act → World → Prop} {S : World → Prop}
theorem wanted_undef {a : Act} {o : Oper} {j t : Nat} {want : Bool} (hg : o.guard = some (j, want)) (hd : (ops[j]?).bind (·.dst) = some t) (ht : a.tmps[t]? = some undef) : Region.wanted o (yielded ops a.tmps) = false := by
  simp only [Region.wanted, hg, yielded, hd, Option.bind_some, ht]
  rfl
theorem mix_skipU {i j t : Nat} {d : Tmp} {want : Bool} {rest : List Nat} {a : Act} {w : World} {o : Oper} (ho : ops[i]? = some o) (hod : o.dst = some d) (hg : o.guard = some (j, want)) (hd : (ops[j]?).bind (·.dst) = some t) (ht : a.tmps[t]? = some undef) (hS : S w) (h : wpMix P ops Q S rest { a with tmps := a.tmps.setIfInBounds d undef } w) : wpMix P ops Q S (i :: rest) a w :=
  mix_skip ho (wanted_undef hg hd ht) hS (by rw [put_some hod]; exact h)
end
end Go.Proofs.YtfidioedjmjddaaGreat

/-
  dialtoneref08: in, second, spell, Has, Asks, terms.
-/
namespace Go.Proofs.YtfidioedjmjddaaGreat
open Go.RowKit Go.Lib

theorem rin_c (n lo hi : Int) (w : World) : Calls Tryz.prog 42 #[.int .i64 n, .int .i64 lo, .int .i64 hi] w fun e w' => e = .returned (.bool (isInB n lo hi)) ∧ w = w' := by
  unfold isInB
  by_cases h : lo ≤ n
  · go_enter Tryz.func42, Tryz.ntmps42
    go_wp2
    go_ret
    exact ⟨by simp [h], rfl⟩
  · go_enter Tryz.func42, Tryz.ntmps42
    go_wp2
    go_ret
    exact ⟨by have h2 : ¬ lo ≤ n := by omega
              simp [h2], rfl⟩

theorem rsecond_c (n : Int) (w : World) : Calls Tryz.prog 40 #[.int .i64 n] w fun e w' => e = .returned (.bool (secB n)) ∧ w = w' := by
  have c := Lib.hid (rin_c n 0 10000000 w)
  go_enter Tryz.func40, Tryz.ntmps40
  go_wp2_with (go_at_call 42; refine c.out.mono ?_; rintro e w' ⟨rfl, rfl⟩)
  go_ret
  exact ⟨rfl, rfl⟩

theorem spell_eq (f t : Int) : spellB f t = (decide (0 ≤ f) && (decide (f < t) && decide (t ≤ 10000001))) := by
  rw [Bool.eq_iff_iff]
  simp only [spellB, secB, isInB, Bool.and_eq_true, decide_eq_true_eq]
  omega
theorem rspell_c (f t : Int) (w : World) : Calls Tryz.prog 41 #[.agg #[.int .i64 f, .int .i64 t]] w fun e w' => e = .returned (.bool (spellB f t)) ∧ Fr [] w w' := by
  rw [spell_eq]
  by_cases h1 : 0 ≤ f
  · by_cases h2 : f < t
    · go_enter Tryz.func41, Tryz.ntmps41
      go_wp2_with fail
      go_ret
      exact ⟨by simp [h1, h2], Fr.alloc _ _ _⟩
    · have h2' : decide (f < t) = false := by simpa using h2
      clear h2
      go_enter Tryz.func41, Tryz.ntmps41
      go_wp2_with fail
      go_ret
      exact ⟨by simp [h2'], Fr.alloc _ _ _⟩
  · have h1' : decide (0 ≤ f) = false := by simpa using h1
    clear h1
    go_enter Tryz.func41, Tryz.ntmps41
    go_wp2_with fail
    go_ret
    exact ⟨by simp [h1'], Fr.alloc _ _ _⟩

theorem rhas_eq (f t s : Int) : hasB f t s = (decide (f ≤ s) && decide (s < t)) := by
  rw [Bool.eq_iff_iff]
  simp only [hasB, isInB, Bool.and_eq_true, decide_eq_true_eq]
  omega
theorem rhas_c (f t s : Int) (w : World) : Calls Tryz.prog 68 #[.agg #[.int .i64 f, .int .i64 t], .int .i64 s] w fun e w' => e = .returned (.bool (hasB f t s)) ∧ Fr [] w w' := by
  rw [rhas_eq]
  by_cases h1 : f ≤ s
  · go_enter Tryz.func68, Tryz.ntmps68
    go_wp2_with fail
    go_ret
    exact ⟨by simp [h1], Fr.alloc _ _ _⟩
  · have h1' : decide (f ≤ s) = false := by simpa using h1
    clear h1
    go_enter Tryz.func68, Tryz.ntmps68
    go_wp2_with fail
    go_ret
    exact ⟨by simp [h1'], Fr.alloc _ _ _⟩

set_option maxRecDepth 100000 in
set_option maxHeartbeats 800000 in
theorem rasks_c (q : Qn) (w : World) : Calls Tryz.prog 16 #[qnV q] w fun e w' => e = .returned (.bool (asksB q)) ∧ Fr [] w w' := by
  obtain ⟨th, sa, a, k⟩ := q
  unfold asksB qnV
  simp only
  cases h1 : isInB th 0 99999999 <;> cases h2 : isInB sa 0 19 <;> cases h3 : secB a
  all_goals
    go_enter Tryz.func16, Tryz.ntmps16
    go_wp2_with (first | (go_at_call 42; refine (rin_c _ _ _ _).mono ?_; rintro e w' ⟨rfl, rfl⟩) | (go_at_call 40; refine (rsecond_c _ _).mono ?_; rintro e w' ⟨rfl, rfl⟩))
    go_ret
    exact ⟨rfl, Fr.alloc _ _ _⟩

/-- The element before the k-th. -/
def lastK (l : List Int) (k : Nat) : Int := if k = 0 then -1 else l.getD (k - 1) 0
theorem ascGo_at {below : Int} {l : List Int} {k : Nat} (hk : k < l.length) (h : ascGo below (-1) l = ascGo below (lastK l k) (l.drop k)) (hl : -1 ≤ lastK l k) :
    (isInB l[k] 0 (below - 1) = true ∧ lastK l k < l[k] → ascGo below (-1) l = ascGo below (lastK l (k + 1)) (l.drop (k + 1)) ∧ -1 ≤ lastK l (k + 1)) ∧ (isInB l[k] 0 (below - 1) = false ∨ l[k] ≤ lastK l k → ascGo below (-1) l = false) := by
  rw [List.drop_eq_getElem_cons hk, ascGo] at h
  have e : lastK l (k + 1) = l[k] := by simp [lastK, hk]
  constructor
  · rintro ⟨h1, h2⟩
    rw [isInB_iff] at h1
    have h3 : isInB l[k] (lastK l k + 1) (below - 1) = true := isInB_iff.2 ⟨by omega, h1.2⟩
    rw [h3, Bool.true_and] at h
    rw [e]
    exact ⟨h, by omega⟩
  · intro h1
    have h3 : isInB l[k] (lastK l k + 1) (below - 1) = false := by
      rcases h1 with h1 | h1
      · cases hb : isInB l[k] (lastK l k + 1) (below - 1) with
        | false => rfl
        | true =>
          rw [isInB_iff] at hb
          rw [isInB_iff.2 ⟨by omega, hb.2⟩] at h1
          cases h1
      · cases hb : isInB l[k] (lastK l k + 1) (below - 1) with
        | false => rfl
        | true => rw [isInB_iff] at hb; omega
    rw [h, h3, Bool.false_and]

set_option maxRecDepth 100000 in
set_option maxHeartbeats 2000000 in
theorem rterms_c (v : Value) (l : List Int) (below : Int) (w : World) (h : IntsAt w v l) (hb : 0 ≤ below ∧ below ≤ 100) : Calls Tryz.prog 43 #[v, .int .i64 below] w fun e w' => e = .returned (.bool (ascB l below)) ∧ Fr [] w w' := by
  obtain ⟨va, vp, rfl⟩ := h.val
  have hl := h.len
  have HI := Lib.hid h
  obtain ⟨hb1, hb2⟩ := hb
  clear h
  go_enter Tryz.func43, Tryz.ntmps43
  go_wp2_with fail
  go_loopw [5] (fun i wr => ∃ k : Nat, k ≤ l.length ∧ i = .int .i64 k ∧ Hid (ascGo below (-1) l = ascGo below (lastK l k) (l.drop k) ∧ -1 ≤ lastK l k) ∧ Hid (Fr [] w wr)) (fun i _ => l.length - (intOf i).toNat)
  case atStart => exact ⟨0, Nat.zero_le _, rfl, Lib.hid ⟨by simp [lastK], by simp [lastK]⟩, Lib.hid (Fr.refl _ _)⟩
  case round =>
    obtain ⟨k, hk, rfl, H, HF⟩ := hrel
    by_cases hlt : k < l.length
    · obtain ⟨b, off, ha, hc⟩ := (HI.out.same HF.out).at_ (by omega)
      subst ha
      have HA := Lib.hid (ascGo_at hlt H.out.1 H.out.2)
      have c1 := hc k (.int .i64 l[k]) (by simp [intC, hlt])
      have hw1 : IntKind.i64.wrap (below - 1) = below - 1 := IntWalk.i64_in _ (by omega)
      cases hin : isInB l[k] 0 (below - 1) with
      | false =>
        have CI := rin_c l[k] 0 (below - 1)
        rw [hin] at CI
        have HCI := Lib.hid CI
        have HB : Hid (ascB l below = false) := Lib.hid (by unfold ascB; rw [HA.out.2 (.inl hin), Bool.and_false])
        clear hin hc CI
        generalize l[k] = x at *
        go_wp2_with fail
        refine reg_mix (Fr [] wr) [0, 1, 2, 3, 4, 5, 6, 7, 8, 9, 10, 11, 12, 13, 14, 15, 16, 17, 18, 19, 20, 21, 22, 23] (by kernel_rfl) (by kernel_rfl) (by kernel_rfl) rfl (Fr.drew _ _) ?_
        have FC : Fr [] wr wr.drew := Fr.drew _ _
        generalize wr.drew = WC at FC ⊢
        iterate 6 (refine mix_take1 (v := ?_) rfl rfl rfl rfl (fun w hS => ?_) ?_; rotate_left; (focus (have s0 := hS.cel c1 (by simp); clear hS; go_simp; rfl)); simp only [List.setIfInBounds_toArray, List.set_cons_succ, List.set_cons_zero])
        refine mix_do rfl rfl rfl (fun K hK => ?_)
        go_simp
        refine (HCI.out _).mono ?_
        rintro e w00 ⟨rfl, rfl⟩
        refine hK _ _ FC ?_
        clear hK K
        try simp only [Act.put, List.setIfInBounds_toArray, List.set_cons_succ, List.set_cons_zero]
        iterate 2 (refine mix_take1 (v := ?_) rfl rfl rfl rfl (fun w hS => ?_) ?_; rotate_left; (focus (have s0 := hS.cel c1 (by simp); clear hS; go_simp; rfl)); simp only [List.setIfInBounds_toArray, List.set_cons_succ, List.set_cons_zero])
        iterate 3 (refine mix_skipF rfl rfl rfl rfl rfl FC ?_; simp only [List.setIfInBounds_toArray, List.set_cons_succ, List.set_cons_zero])
        iterate 10 (refine mix_skipU rfl rfl rfl rfl rfl FC ?_; simp only [List.setIfInBounds_toArray, List.set_cons_succ, List.set_cons_zero])
        (refine mix_skipF rfl rfl rfl rfl rfl FC ?_; simp only [List.setIfInBounds_toArray, List.set_cons_succ, List.set_cons_zero])
        (refine mix_take1 (v := ?_) rfl rfl rfl rfl (fun w hS => ?_) ?_; rotate_left; (focus (have s0 := hS.cel c1 (by simp); clear hS; go_simp; rfl)); simp only [List.setIfInBounds_toArray, List.set_cons_succ, List.set_cons_zero])
        refine mix_end ?_
        clear hw1
        go_wp2_with fail
        go_ret
        exact ⟨by rw [HB.out]; rfl, HF.out.trans FC⟩
      | true =>
        have CI := rin_c l[k] 0 (below - 1)
        rw [hin] at CI
        have HCI := Lib.hid CI
        clear CI
        rcases Nat.eq_zero_or_pos k with hk0 | hk0
        · subst hk0
          simp only [Nat.add_zero] at c1
          have HN := Lib.hid (HA.out.1 ⟨hin, by have := isInB_iff.1 hin; simp [lastK]; omega⟩)
          clear hin hc
          generalize l[0] = x at *
          go_wp2_with fail
          refine reg_mix (Fr [] wr) [0, 1, 2, 3, 4, 5, 6, 7, 8, 9, 10, 11, 12, 13, 14, 15, 16, 17, 18, 19, 20, 21, 22, 23] (by kernel_rfl) (by kernel_rfl) (by kernel_rfl) rfl (Fr.drew _ _) ?_
          have FC : Fr [] wr wr.drew := Fr.drew _ _
          generalize wr.drew = WC at FC ⊢
          iterate 6 (refine mix_take1 (v := ?_) rfl rfl rfl rfl (fun w hS => ?_) ?_; rotate_left; (focus (have s0 := hS.cel c1 (by simp); clear hS; go_simp; rfl)); simp only [List.setIfInBounds_toArray, List.set_cons_succ, List.set_cons_zero])
          refine mix_do rfl rfl rfl (fun K hK => ?_)
          go_simp
          refine (HCI.out _).mono ?_
          rintro e w00 ⟨rfl, rfl⟩
          refine hK _ _ FC ?_
          clear hK K
          try simp only [Act.put, List.setIfInBounds_toArray, List.set_cons_succ, List.set_cons_zero]
          iterate 2 (refine mix_take1 (v := ?_) rfl rfl rfl rfl (fun w hS => ?_) ?_; rotate_left; (focus (have s0 := hS.cel c1 (by simp); clear hS; go_simp; rfl)); simp only [List.setIfInBounds_toArray, List.set_cons_succ, List.set_cons_zero])
          iterate 3 (refine mix_takeg (v := ?_) rfl rfl rfl rfl rfl rfl (fun w hS => ?_) ?_; rotate_left; (focus (have s0 := hS.cel c1 (by simp); clear hS; go_simp; rfl)); simp only [List.setIfInBounds_toArray, List.set_cons_succ, List.set_cons_zero])
          iterate 10 (refine mix_skipT rfl rfl rfl rfl rfl FC ?_; simp only [List.setIfInBounds_toArray, List.set_cons_succ, List.set_cons_zero])
          (refine mix_takeg (v := ?_) rfl rfl rfl rfl rfl rfl (fun w hS => ?_) ?_; rotate_left; (focus (have s0 := hS.cel c1 (by simp); clear hS; go_simp; rfl)); simp only [List.setIfInBounds_toArray, List.set_cons_succ, List.set_cons_zero])
          (refine mix_take1 (v := ?_) rfl rfl rfl rfl (fun w hS => ?_) ?_; rotate_left; (focus (have s0 := hS.cel c1 (by simp); clear hS; go_simp; rfl)); simp only [List.setIfInBounds_toArray, List.set_cons_succ, List.set_cons_zero])
          refine mix_end ?_
          clear hw1
          have HF2 := Lib.hid (HF.out.trans FC)
          clear FC
          go_wp2_with fail
          go_roundw
          case rel => exact ⟨0 + 1, by omega, by go_num, HN, HF2⟩
          case measure => simp [intOf]; omega
        · obtain ⟨k', rfl⟩ : ∃ k', k = k' + 1 := ⟨k - 1, by omega⟩
          have hk' : k' < l.length := by omega
          have c2 := hc k' (.int .i64 l[k']) (by simp [intC, hk'])
          have hlk : lastK l (k' + 1) = l[k'] := by simp [lastK, hk']
          rw [hlk] at HA
          have hs1 : IntKind.i64.wrap ((k' : Int) + 1 - 1) = (k' : Int) := by rw [show (k' : Int) + 1 - 1 = (k' : Int) by omega]; exact IntWalk.i64_in _ (by omega)
          have hs2 : IntKind.i64.wrap ((k' : Int) + 1 + -1) = (k' : Int) := by rw [show (k' : Int) + 1 + -1 = (k' : Int) + 1 - 1 by omega]; exact hs1
          have hs3 : IntKind.i64.wrap (k' : Int) = (k' : Int) := IntWalk.i64_in _ (by omega)
          have hk1 : (0 : Int) < (k' : Int) + 1 := by omega
          have hk2 : decide ((0 : Int) < (k' : Int) + 1) = true := decide_eq_true hk1
          have hki : (k' : Int) < (l.length : Int) := by omega
          by_cases hle : l[k' + 1] ≤ l[k']
          · have HB : Hid (ascB l below = false) := Lib.hid (by unfold ascB; rw [HA.out.2 (.inr hle), Bool.and_false])
            clear hin hc hlk H
            generalize l[k' + 1] = x at *
            generalize l[k'] = y at *
            go_wp2_with fail
            refine reg_mix (Fr [] wr) [0, 1, 2, 3, 4, 5, 6, 7, 8, 9, 10, 11, 12, 13, 14, 15, 16, 17, 18, 19, 20, 21, 22, 23] (by kernel_rfl) (by kernel_rfl) (by kernel_rfl) rfl (Fr.drew _ _) ?_
            have FC : Fr [] wr wr.drew := Fr.drew _ _
            generalize wr.drew = WC at FC ⊢
            iterate 6 (refine mix_take1 (v := ?_) rfl rfl rfl rfl (fun w hS => ?_) ?_; rotate_left; (focus (have s0 := hS.cel c1 (by simp); have s1 := hS.cel c2 (by simp); clear hS; go_simp; rfl)); simp only [List.setIfInBounds_toArray, List.set_cons_succ, List.set_cons_zero])
            refine mix_do rfl rfl rfl (fun K hK => ?_)
            go_simp
            refine (HCI.out _).mono ?_
            rintro e w00 ⟨rfl, rfl⟩
            refine hK _ _ FC ?_
            clear hK K
            try simp only [Act.put, List.setIfInBounds_toArray, List.set_cons_succ, List.set_cons_zero]
            iterate 2 (refine mix_take1 (v := ?_) rfl rfl rfl rfl (fun w hS => ?_) ?_; rotate_left; (focus (have s0 := hS.cel c1 (by simp); have s1 := hS.cel c2 (by simp); clear hS; go_simp; rfl)); simp only [List.setIfInBounds_toArray, List.set_cons_succ, List.set_cons_zero])
            iterate 14 (refine mix_takeg (v := ?_) rfl rfl rfl rfl rfl rfl (fun w hS => ?_) ?_; rotate_left; (focus (have s0 := hS.cel c1 (by simp); have s1 := hS.cel c2 (by simp); clear hS; go_simp; rfl)); simp only [List.setIfInBounds_toArray, List.set_cons_succ, List.set_cons_zero])
            (refine mix_take1 (v := ?_) rfl rfl rfl rfl (fun w hS => ?_) ?_; rotate_left; (focus (have s0 := hS.cel c1 (by simp); have s1 := hS.cel c2 (by simp); clear hS; go_simp; rfl)); simp only [List.setIfInBounds_toArray, List.set_cons_succ, List.set_cons_zero])
            refine mix_end ?_
            clear hw1 hs1 hs2 hs3 hk1 hk2 hki
            go_wp2_with fail
            go_ret
            exact ⟨by rw [HB.out]; rfl, HF.out.trans FC⟩
          · have HN := Lib.hid (HA.out.1 ⟨hin, by omega⟩)
            have hle2 : decide (l[k' + 1] ≤ l[k']) = false := by simpa using hle
            clear hin hc hlk H hle
            generalize l[k' + 1] = x at *
            generalize l[k'] = y at *
            go_wp2_with fail
            refine reg_mix (Fr [] wr) [0, 1, 2, 3, 4, 5, 6, 7, 8, 9, 10, 11, 12, 13, 14, 15, 16, 17, 18, 19, 20, 21, 22, 23] (by kernel_rfl) (by kernel_rfl) (by kernel_rfl) rfl (Fr.drew _ _) ?_
            have FC : Fr [] wr wr.drew := Fr.drew _ _
            generalize wr.drew = WC at FC ⊢
            iterate 6 (refine mix_take1 (v := ?_) rfl rfl rfl rfl (fun w hS => ?_) ?_; rotate_left; (focus (have s0 := hS.cel c1 (by simp); have s1 := hS.cel c2 (by simp); clear hS; go_simp; rfl)); simp only [List.setIfInBounds_toArray, List.set_cons_succ, List.set_cons_zero])
            refine mix_do rfl rfl rfl (fun K hK => ?_)
            go_simp
            refine (HCI.out _).mono ?_
            rintro e w00 ⟨rfl, rfl⟩
            refine hK _ _ FC ?_
            clear hK K
            try simp only [Act.put, List.setIfInBounds_toArray, List.set_cons_succ, List.set_cons_zero]
            iterate 2 (refine mix_take1 (v := ?_) rfl rfl rfl rfl (fun w hS => ?_) ?_; rotate_left; (focus (have s0 := hS.cel c1 (by simp); have s1 := hS.cel c2 (by simp); clear hS; go_simp; rfl)); simp only [List.setIfInBounds_toArray, List.set_cons_succ, List.set_cons_zero])
            iterate 14 (refine mix_takeg (v := ?_) rfl rfl rfl rfl rfl rfl (fun w hS => ?_) ?_; rotate_left; (focus (have s0 := hS.cel c1 (by simp); have s1 := hS.cel c2 (by simp); clear hS; go_simp; rfl)); simp only [List.setIfInBounds_toArray, List.set_cons_succ, List.set_cons_zero])
            (refine mix_take1 (v := ?_) rfl rfl rfl rfl (fun w hS => ?_) ?_; rotate_left; (focus (have s0 := hS.cel c1 (by simp); have s1 := hS.cel c2 (by simp); clear hS; go_simp; rfl)); simp only [List.setIfInBounds_toArray, List.set_cons_succ, List.set_cons_zero])
            refine mix_end ?_
            clear hw1 hs1 hs2 hs3 hk1 hk2 hki hle2
            have HF2 := Lib.hid (HF.out.trans FC)
            clear FC
            go_wp2_with fail
            go_roundw
            case rel => exact ⟨k' + 1 + 1, by omega, by go_num, HN, HF2⟩
            case measure => simp [intOf]; omega
    · obtain rfl : k = l.length := by omega
      have HB : Hid (ascB l below = decide (l.length ≤ 4)) := Lib.hid (by
        have h := H.out.1
        rw [List.drop_length] at h
        unfold ascB
        rw [h]
        simp [ascGo])
      go_wp2_with fail
      go_ret
      exact ⟨by rw [HB.out]; simp; omega, HF.out⟩

end Go.Proofs.YtfidioedjmjddaaGreat

/-
  dialtoneref08: Fact, Clause.
-/
namespace Go.Proofs.YtfidioedjmjddaaGreat
open Go.RowKit Go.Lib

set_option maxRecDepth 100000 in
set_option maxHeartbeats 800000 in
theorem rfact_c (x : Fa) (q : Qn) (w : World) : Calls Tryz.prog 53 #[faV x, qnV q] w fun e w' => e = .returned (.bool (statesB x q)) ∧ Fr [] w w' := by
  obtain ⟨qt, qs, qa, qk⟩ := q
  obtain ⟨th, sa, f, t, kf, kt⟩ := x
  unfold statesB qnV faV
  simp only
  by_cases h1 : th = qt
  · subst h1
    cases h2 : hasB f t qa
    all_goals
      go_enter Tryz.func53, Tryz.ntmps53
      go_wp2_with fail
      refine (rhas_c f t qa _).mono ?_
      rintro e w1 ⟨rfl, f1⟩
      have k0 := f1.keep (heap_alloc_old _ (heap_alloc_new w (.cells #[.int .i64 th, .int .i64 sa, .int .i64 f, .int .i64 t, .int .i64 kf, .int .i64 kt] 74))) (by simp)
      have k1 := f1.keep (heap_alloc_new (w.alloc (.cells #[.int .i64 th, .int .i64 sa, .int .i64 f, .int .i64 t, .int .i64 kf, .int .i64 kt] 74)) (.cells #[.int .i64 th, .int .i64 qs, .int .i64 qa, .int .i64 qk] 33)) (by simp)
      have d4 : w1.cell? ⟨w.heap.size, 4, none⟩ = some (.int .i64 kf) := cell_of_blk k0 4
      have d5 : w1.cell? ⟨w.heap.size, 5, none⟩ = some (.int .i64 kt) := cell_of_blk k0 5
      have e3 : w1.cell? ⟨w.heap.size + 1, 3, none⟩ = some (.int .i64 qk) := by simpa using cell_of_blk k1 3
      have F1 := Lib.hid (((Fr.alloc [] _ _).trans (Fr.alloc [] _ _)).trans f1)
      clear k0 k1 f1
      go_wp2_with (first | (go_at_call 68; refine (rhas_c kf kt qk _).mono ?_; rintro e w2 ⟨rfl, f2⟩))
      go_ret
      first
        | exact ⟨by simp, F1.out⟩
        | exact ⟨by simp, F1.out.trans f2⟩
  · go_enter Tryz.func53, Tryz.ntmps53
    go_wp2_with fail
    go_ret
    exact ⟨by simp [h1], (Fr.alloc _ _ _).trans (Fr.alloc _ _ _)⟩

theorem rpRow_cells' {w : World} {v : Value} {rs : List Rp} (h : Sl w v rs.length (rs.flatMap rpC)) (k : Nat) (hk : k < rs.length) : ∃ b off cap, v = .slice (some ⟨b, off, none⟩) rs.length cap ∧ ∀ j u, (rpC rs[k])[j]? = some u → w.cell? ⟨b, off + k * 3 + j, none⟩ = some u := by
  obtain ⟨a, cap, rfl⟩ := h.val
  obtain ⟨b, off, rfl, hc⟩ := h.at_ (by omega)
  refine ⟨b, off, cap, rfl, fun j u hu => ?_⟩
  have hj : j < 3 := by have := (List.getElem?_eq_some_iff.1 hu).1; simpa [rpC] using this
  have := hc (k * 3 + j) u ((flat_get (enc := rpC) (k := 3) (fun _ => rfl) rs k hk j hj).trans hu)
  rwa [← Nat.add_assoc] at this
theorem any_take {α : Type} (p : α → Bool) (l : List α) (k : Nat) (hk : k < l.length) : (l.take (k + 1)).any p = ((l.take k).any p || p l[k]) := by
  rw [List.take_succ_eq_append_getElem hk, List.any_append]; simp
theorem any_of_take {α : Type} (p : α → Bool) (l : List α) (k : Nat) (hk : k < l.length) (h : p l[k] = true) : l.any p = true := List.any_eq_true.2 ⟨_, List.getElem_mem hk, h⟩

set_option maxRecDepth 1000000 in
set_option maxHeartbeats 4000000 in
theorem rclause_c (vc vr vf : Value) (ys : List ClV) (c : Rb) (q : Qn) (i : Nat) (w : World) (h : RbAt w vc vr vf ys c) (hi : i < ys.length) : Calls Tryz.prog 54 #[rbV vc vr vf, .int .i64 i, qnV q] w fun e w' => e = .returned (.bool (rulesB c q i)) ∧ Fr [] w w' := by
  have hyl := h.cls.sl.len
  have heq := h.eq
  obtain ⟨ar, pr, rfl⟩ := h.rps.val
  obtain ⟨af, pf, rfl⟩ := h.fas.val
  obtain ⟨th, sa, at_, kn⟩ := q
  have hrl := h.rps.len
  obtain ⟨b, off, cap, hv, hcl⟩ := clRow_cells h.cls.sl i hi
  subst hv
  have hci : i < c.cls.length := by rw [heq, List.length_map]; exact hi
  have hcx : c.cls.getD i default = ys[i].x := by simp [heq, hi]
  have HRU : Hid (rulesB c ⟨th, sa, at_, kn⟩ i = (decide (ys[i].x.pub ≤ kn) && hasB ys[i].x.f ys[i].x.t at_ && !c.rps.any (repB i ⟨th, sa, at_, kn⟩))) := Lib.hid (by unfold rulesB; rw [hcx])
  clear hcx heq
  have A2 := allocs_at [.cells #[.slice (some ⟨b, off, none⟩) ys.length cap, .slice ar c.rps.length pr, .slice af c.fas.length pf] 30, .cells #[.int .i64 th, .int .i64 sa, .int .i64 at_, .int .i64 kn] 33] w
  have F2 := allocs_fr [.cells #[.slice (some ⟨b, off, none⟩) ys.length cap, .slice ar c.rps.length pr, .slice af c.fas.length pf] 30, .cells #[.int .i64 th, .int .i64 sa, .int .i64 at_, .int .i64 kn] 33] w
  have e0 := F2.cel (hcl 0 _ rfl) (by simp)
  have e1 := F2.cel (hcl 1 _ rfl) (by simp)
  have e2 := F2.cel (hcl 2 _ rfl) (by simp)
  have e3 := F2.cel (hcl 3 _ rfl) (by simp)
  have e4 := F2.cel (hcl 4 _ rfl) (by simp)
  have e5 := F2.cel (hcl 5 _ rfl) (by simp)
  have hbA := A2 0 (by simp)
  have hbB := A2 1 (by simp)
  have HB := Lib.hid hbA; have HC := Lib.hid hbB; have HF2 := Lib.hid F2; have HR := Lib.hid h.rps
  simp only [allocs, Nat.add_zero, List.getElem_cons_zero, List.getElem_cons_succ] at e0 e1 e2 e3 e4 e5 HB HC HF2
  obtain ⟨⟨⟨xp, xf, xt, xn, xb, xg⟩, vn, vb⟩, hx⟩ : ∃ y, ys[i] = y := ⟨_, rfl⟩
  rw [hx] at HRU e0 e1 e2 e3 e4 e5
  have hN := h.cls.needs ys[i] (List.getElem_mem hi)
  have hBr := h.cls.bars ys[i] (List.getElem_mem hi)
  rw [hx] at hN hBr
  obtain ⟨an, pn, hvn⟩ := hN.val
  obtain ⟨ab, pb, hvb⟩ := hBr.val
  simp only at hvn hvb HRU
  subst hvn hvb
  clear A2 F2 hcl hbA hbB hx hN hBr h hci
  unfold rbV qnV
  simp only
  by_cases hp : xp ≤ kn
  · have HH := Lib.hid fun W => rhas_c xf xt at_ W
    cases hh : hasB xf xt at_ with
    | false =>
      rw [hh] at HH HRU
      clear hh
      go_enter Tryz.func54, Tryz.ntmps54
      go_wp2_with fail
      refine (HH.out _).mono ?_
      rintro e w1 ⟨rfl, f1⟩
      have F1 := Lib.hid ((HF2.out.trans (Fr.alloc _ _ _)).trans f1)
      clear f1 e0 e1 e2 e3 e4 e5
      go_wp2_with fail
      go_ret
      exact ⟨by rw [HRU.out]; simp, F1.out⟩
    | true =>
      rw [hh] at HH HRU
      clear hh
      go_enter Tryz.func54, Tryz.ntmps54
      go_wp2_with fail
      refine (HH.out _).mono ?_
      rintro e w1 ⟨rfl, f1⟩
      have HB1 := Lib.hid (f1.keep (heap_alloc_old _ HB.out) (by simp))
      have HC1 := Lib.hid (f1.keep (heap_alloc_old _ HC.out) (by simp))
      have F1 := Lib.hid ((HF2.out.trans (Fr.alloc _ _ _)).trans f1)
      have HR1 := Lib.hid (HR.out.same F1.out)
      clear f1 e0 e1 e2 e3 e4 e5 HB HC HF2 HR
      go_wp2_with fail
      go_loopw [8] (fun s wr => ∃ k : Nat, k ≤ c.rps.length ∧ s = .int .i64 k ∧ Hid ((c.rps.take k).any (repB i ⟨th, sa, at_, kn⟩) = false) ∧ Hid (Fr [] w1 wr)) (fun s _ => c.rps.length - (intOf s).toNat)
      case atStart => exact ⟨0, Nat.zero_le _, rfl, Lib.hid (by simp), Lib.hid (Fr.refl _ _)⟩
      case round =>
        obtain ⟨k, hk, rfl, HA, HF⟩ := hrel
        have c1 := cell_of_blk (HF.out.keep HB1.out (by simp)) 1
        by_cases hlt : k < c.rps.length
        · obtain ⟨rb, ro, rcap, hv, hcl⟩ := rpRow_cells' (HR1.out.same HF.out) k hlt
          cases hv
          have r0 := hcl 0 _ rfl
          have r1 := hcl 1 _ rfl
          have r2 := hcl 2 _ rfl
          simp only [Nat.add_zero] at r0 r1 r2
          have c2 := cell_of_blk (HF.out.keep HC1.out (by simp)) 2
          have c3 := cell_of_blk (HF.out.keep HC1.out (by simp)) 3
          have HT := Lib.hid (any_take (repB i ⟨th, sa, at_, kn⟩) c.rps k hlt)
          have HT2 := Lib.hid (any_of_take (repB i ⟨th, sa, at_, kn⟩) c.rps k hlt)
          have HRB : Hid (repB i ⟨th, sa, at_, kn⟩ c.rps[k] = (decide (c.rps[k].cl = i) && decide (c.rps[k].pub ≤ kn) && decide (c.rps[k].frm ≤ at_))) := Lib.hid rfl
          generalize c.rps[k] = r at *
          obtain ⟨rc, rp, rf⟩ := r
          simp only at HRB r0 r1 r2
          clear hcl
          by_cases h1 : rc = i
          · subst h1
            by_cases h2 : rp ≤ kn
            · by_cases h3 : rf ≤ at_
              · have HX : Hid (rulesB c ⟨th, sa, at_, kn⟩ i = false) := Lib.hid (by rw [HRU.out, HT2.out (by rw [HRB.out]; simp [h2, h3])]; simp)
                go_wp2_with fail
                refine reg_mix (Fr [] wr) [0, 1, 2, 3, 4, 5, 6, 7, 8, 9, 10, 11, 12, 13, 14, 15, 16, 17, 18, 19, 20, 21, 22, 23, 24, 25, 26, 27, 28, 29] (by kernel_rfl) (by kernel_rfl) (by kernel_rfl) rfl (Fr.drew _ _) ?_
                have FC : Fr [] wr wr.drew := Fr.drew _ _
                generalize wr.drew = WC at FC ⊢
                iterate 9 (refine mix_take1 (v := ?_) rfl rfl rfl rfl (fun w hS => ?_) ?_; rotate_left; (focus (have s0 := hS.cel c1 (by simp); have s1 := hS.cel c2 (by simp); have s2 := hS.cel c3 (by simp); have s3 := hS.cel r0 (by simp); have s4 := hS.cel r1 (by simp); have s5 := hS.cel r2 (by simp); clear hS; go_simp; rfl)); simp only [List.setIfInBounds_toArray, List.set_cons_succ, List.set_cons_zero])
                iterate 9 (refine mix_takeg (v := ?_) rfl rfl rfl rfl rfl rfl (fun w hS => ?_) ?_; rotate_left; (focus (have s0 := hS.cel c1 (by simp); have s1 := hS.cel c2 (by simp); have s2 := hS.cel c3 (by simp); have s3 := hS.cel r0 (by simp); have s4 := hS.cel r1 (by simp); have s5 := hS.cel r2 (by simp); clear hS; go_simp; rfl)); simp only [List.setIfInBounds_toArray, List.set_cons_succ, List.set_cons_zero])
                iterate 2 (refine mix_take1 (v := ?_) rfl rfl rfl rfl (fun w hS => ?_) ?_; rotate_left; (focus (have s0 := hS.cel c1 (by simp); have s1 := hS.cel c2 (by simp); have s2 := hS.cel c3 (by simp); have s3 := hS.cel r0 (by simp); have s4 := hS.cel r1 (by simp); have s5 := hS.cel r2 (by simp); clear hS; go_simp; rfl)); simp only [List.setIfInBounds_toArray, List.set_cons_succ, List.set_cons_zero])
                iterate 9 (refine mix_takeg (v := ?_) rfl rfl rfl rfl rfl rfl (fun w hS => ?_) ?_; rotate_left; (focus (have s0 := hS.cel c1 (by simp); have s1 := hS.cel c2 (by simp); have s2 := hS.cel c3 (by simp); have s3 := hS.cel r0 (by simp); have s4 := hS.cel r1 (by simp); have s5 := hS.cel r2 (by simp); clear hS; go_simp; rfl)); simp only [List.setIfInBounds_toArray, List.set_cons_succ, List.set_cons_zero])
                (refine mix_take1 (v := ?_) rfl rfl rfl rfl (fun w hS => ?_) ?_; rotate_left; (focus (have s0 := hS.cel c1 (by simp); have s1 := hS.cel c2 (by simp); have s2 := hS.cel c3 (by simp); have s3 := hS.cel r0 (by simp); have s4 := hS.cel r1 (by simp); have s5 := hS.cel r2 (by simp); clear hS; go_simp; rfl)); simp only [List.setIfInBounds_toArray, List.set_cons_succ, List.set_cons_zero])
                refine mix_end ?_
                clear c1 c2 c3 r0 r1 r2
                go_wp2_with fail
                go_ret
                exact ⟨by rw [HX.out]; rfl, (F1.out.trans HF.out).trans FC⟩
              · have h3' : decide (rf ≤ at_) = false := by simpa using h3
                have HN : Hid ((c.rps.take (k + 1)).any (repB i ⟨th, sa, at_, kn⟩) = false) := Lib.hid (by rw [HT.out, HA.out, HRB.out, h3']; simp)
                clear h3
                go_wp2_with fail
                refine reg_mix (Fr [] wr) [0, 1, 2, 3, 4, 5, 6, 7, 8, 9, 10, 11, 12, 13, 14, 15, 16, 17, 18, 19, 20, 21, 22, 23, 24, 25, 26, 27, 28, 29] (by kernel_rfl) (by kernel_rfl) (by kernel_rfl) rfl (Fr.drew _ _) ?_
                have FC : Fr [] wr wr.drew := Fr.drew _ _
                generalize wr.drew = WC at FC ⊢
                iterate 9 (refine mix_take1 (v := ?_) rfl rfl rfl rfl (fun w hS => ?_) ?_; rotate_left; (focus (have s0 := hS.cel c1 (by simp); have s1 := hS.cel c2 (by simp); have s2 := hS.cel c3 (by simp); have s3 := hS.cel r0 (by simp); have s4 := hS.cel r1 (by simp); have s5 := hS.cel r2 (by simp); clear hS; go_simp; rfl)); simp only [List.setIfInBounds_toArray, List.set_cons_succ, List.set_cons_zero])
                iterate 9 (refine mix_takeg (v := ?_) rfl rfl rfl rfl rfl rfl (fun w hS => ?_) ?_; rotate_left; (focus (have s0 := hS.cel c1 (by simp); have s1 := hS.cel c2 (by simp); have s2 := hS.cel c3 (by simp); have s3 := hS.cel r0 (by simp); have s4 := hS.cel r1 (by simp); have s5 := hS.cel r2 (by simp); clear hS; go_simp; rfl)); simp only [List.setIfInBounds_toArray, List.set_cons_succ, List.set_cons_zero])
                iterate 2 (refine mix_take1 (v := ?_) rfl rfl rfl rfl (fun w hS => ?_) ?_; rotate_left; (focus (have s0 := hS.cel c1 (by simp); have s1 := hS.cel c2 (by simp); have s2 := hS.cel c3 (by simp); have s3 := hS.cel r0 (by simp); have s4 := hS.cel r1 (by simp); have s5 := hS.cel r2 (by simp); clear hS; go_simp; rfl)); simp only [List.setIfInBounds_toArray, List.set_cons_succ, List.set_cons_zero])
                iterate 9 (refine mix_takeg (v := ?_) rfl rfl rfl rfl rfl rfl (fun w hS => ?_) ?_; rotate_left; (focus (have s0 := hS.cel c1 (by simp); have s1 := hS.cel c2 (by simp); have s2 := hS.cel c3 (by simp); have s3 := hS.cel r0 (by simp); have s4 := hS.cel r1 (by simp); have s5 := hS.cel r2 (by simp); clear hS; go_simp; rfl)); simp only [List.setIfInBounds_toArray, List.set_cons_succ, List.set_cons_zero])
                (refine mix_take1 (v := ?_) rfl rfl rfl rfl (fun w hS => ?_) ?_; rotate_left; (focus (have s0 := hS.cel c1 (by simp); have s1 := hS.cel c2 (by simp); have s2 := hS.cel c3 (by simp); have s3 := hS.cel r0 (by simp); have s4 := hS.cel r1 (by simp); have s5 := hS.cel r2 (by simp); clear hS; go_simp; rfl)); simp only [List.setIfInBounds_toArray, List.set_cons_succ, List.set_cons_zero])
                refine mix_end ?_
                clear c1 c2 c3 r0 r1 r2
                have HF' := Lib.hid (HF.out.trans FC)
                clear FC
                go_wp2_with fail
                go_roundw
                case rel => exact ⟨k + 1, by omega, by go_num, HN, HF'⟩
                case measure => simp [intOf]; omega
            · have h2' : decide (rp ≤ kn) = false := by simpa using h2
              have HN : Hid ((c.rps.take (k + 1)).any (repB i ⟨th, sa, at_, kn⟩) = false) := Lib.hid (by rw [HT.out, HA.out, HRB.out, h2']; simp)
              clear h2
              go_wp2_with fail
              refine reg_mix (Fr [] wr) [0, 1, 2, 3, 4, 5, 6, 7, 8, 9, 10, 11, 12, 13, 14, 15, 16, 17, 18, 19, 20, 21, 22, 23, 24, 25, 26, 27, 28, 29] (by kernel_rfl) (by kernel_rfl) (by kernel_rfl) rfl (Fr.drew _ _) ?_
              have FC : Fr [] wr wr.drew := Fr.drew _ _
              generalize wr.drew = WC at FC ⊢
              iterate 9 (refine mix_take1 (v := ?_) rfl rfl rfl rfl (fun w hS => ?_) ?_; rotate_left; (focus (have s0 := hS.cel c1 (by simp); have s1 := hS.cel c2 (by simp); have s2 := hS.cel c3 (by simp); have s3 := hS.cel r0 (by simp); have s4 := hS.cel r1 (by simp); have s5 := hS.cel r2 (by simp); clear hS; go_simp; rfl)); simp only [List.setIfInBounds_toArray, List.set_cons_succ, List.set_cons_zero])
              iterate 9 (refine mix_takeg (v := ?_) rfl rfl rfl rfl rfl rfl (fun w hS => ?_) ?_; rotate_left; (focus (have s0 := hS.cel c1 (by simp); have s1 := hS.cel c2 (by simp); have s2 := hS.cel c3 (by simp); have s3 := hS.cel r0 (by simp); have s4 := hS.cel r1 (by simp); have s5 := hS.cel r2 (by simp); clear hS; go_simp; rfl)); simp only [List.setIfInBounds_toArray, List.set_cons_succ, List.set_cons_zero])
              iterate 2 (refine mix_take1 (v := ?_) rfl rfl rfl rfl (fun w hS => ?_) ?_; rotate_left; (focus (have s0 := hS.cel c1 (by simp); have s1 := hS.cel c2 (by simp); have s2 := hS.cel c3 (by simp); have s3 := hS.cel r0 (by simp); have s4 := hS.cel r1 (by simp); have s5 := hS.cel r2 (by simp); clear hS; go_simp; rfl)); simp only [List.setIfInBounds_toArray, List.set_cons_succ, List.set_cons_zero])
              iterate 9 (refine mix_skipT rfl rfl rfl rfl rfl FC ?_; simp only [List.setIfInBounds_toArray, List.set_cons_succ, List.set_cons_zero])
              (refine mix_take1 (v := ?_) rfl rfl rfl rfl (fun w hS => ?_) ?_; rotate_left; (focus (have s0 := hS.cel c1 (by simp); have s1 := hS.cel c2 (by simp); have s2 := hS.cel c3 (by simp); have s3 := hS.cel r0 (by simp); have s4 := hS.cel r1 (by simp); have s5 := hS.cel r2 (by simp); clear hS; go_simp; rfl)); simp only [List.setIfInBounds_toArray, List.set_cons_succ, List.set_cons_zero])
              refine mix_end ?_
              clear c1 c2 c3 r0 r1 r2
              have HF' := Lib.hid (HF.out.trans FC)
              clear FC
              go_wp2_with fail
              go_roundw
              case rel => exact ⟨k + 1, by omega, by go_num, HN, HF'⟩
              case measure => simp [intOf]; omega
          · have h1' : (rc == (i : Int)) = false := by simpa using h1
            have HN : Hid ((c.rps.take (k + 1)).any (repB i ⟨th, sa, at_, kn⟩) = false) := Lib.hid (by rw [HT.out, HA.out, HRB.out]; simp [h1])
            clear h1
            go_wp2_with fail
            refine reg_mix (Fr [] wr) [0, 1, 2, 3, 4, 5, 6, 7, 8, 9, 10, 11, 12, 13, 14, 15, 16, 17, 18, 19, 20, 21, 22, 23, 24, 25, 26, 27, 28, 29] (by kernel_rfl) (by kernel_rfl) (by kernel_rfl) rfl (Fr.drew _ _) ?_
            have FC : Fr [] wr wr.drew := Fr.drew _ _
            generalize wr.drew = WC at FC ⊢
            iterate 9 (refine mix_take1 (v := ?_) rfl rfl rfl rfl (fun w hS => ?_) ?_; rotate_left; (focus (have s0 := hS.cel c1 (by simp); have s1 := hS.cel c2 (by simp); have s2 := hS.cel c3 (by simp); have s3 := hS.cel r0 (by simp); have s4 := hS.cel r1 (by simp); have s5 := hS.cel r2 (by simp); clear hS; go_simp; rfl)); simp only [List.setIfInBounds_toArray, List.set_cons_succ, List.set_cons_zero])
            iterate 9 (refine mix_skipT rfl rfl rfl rfl rfl FC ?_; simp only [List.setIfInBounds_toArray, List.set_cons_succ, List.set_cons_zero])
            iterate 2 (refine mix_take1 (v := ?_) rfl rfl rfl rfl (fun w hS => ?_) ?_; rotate_left; (focus (have s0 := hS.cel c1 (by simp); have s1 := hS.cel c2 (by simp); have s2 := hS.cel c3 (by simp); have s3 := hS.cel r0 (by simp); have s4 := hS.cel r1 (by simp); have s5 := hS.cel r2 (by simp); clear hS; go_simp; rfl)); simp only [List.setIfInBounds_toArray, List.set_cons_succ, List.set_cons_zero])
            iterate 9 (refine mix_skipT rfl rfl rfl rfl rfl FC ?_; simp only [List.setIfInBounds_toArray, List.set_cons_succ, List.set_cons_zero])
            (refine mix_take1 (v := ?_) rfl rfl rfl rfl (fun w hS => ?_) ?_; rotate_left; (focus (have s0 := hS.cel c1 (by simp); have s1 := hS.cel c2 (by simp); have s2 := hS.cel c3 (by simp); have s3 := hS.cel r0 (by simp); have s4 := hS.cel r1 (by simp); have s5 := hS.cel r2 (by simp); clear hS; go_simp; rfl)); simp only [List.setIfInBounds_toArray, List.set_cons_succ, List.set_cons_zero])
            refine mix_end ?_
            clear c1 c2 c3 r0 r1 r2
            have HF' := Lib.hid (HF.out.trans FC)
            clear FC
            go_wp2_with fail
            go_roundw
            case rel => exact ⟨k + 1, by omega, by go_num, HN, HF'⟩
            case measure => simp [intOf]; omega
        · obtain rfl : k = c.rps.length := by omega
          have HX : Hid (rulesB c ⟨th, sa, at_, kn⟩ i = true) := Lib.hid (by
            have h := HA.out
            rw [List.take_length] at h
            rw [HRU.out, h]; simp [hp])
          go_wp2_with fail
          go_ret
          exact ⟨by rw [HX.out]; rfl, F1.out.trans HF.out⟩
  · have hp' : decide (xp ≤ kn) = false := by simpa using hp
    rw [hp'] at HRU
    clear hp'
    have hp2 : kn < xp := by omega
    have hp3 : decide (kn < xp) = true := decide_eq_true hp2
    clear hp
    go_enter Tryz.func54, Tryz.ntmps54
    go_wp2_with fail
    go_ret
    exact ⟨by rw [HRU.out]; simp, HF2.out.trans (Fr.alloc _ _ _)⟩

end Go.Proofs.YtfidioedjmjddaaGreat

/-
  dialtoneref08: finds.
-/
namespace Go.Proofs.YtfidioedjmjddaaGreat
open Go.RowKit Go.Lib

theorem finds_take (l : List Fd) (n : Int) (h : Bool) (k : Nat) (hk : k < l.length) : findsB (l.take (k + 1)) n h = (findsB (l.take k) n h || (decide (l[k].says = n) && l[k].holds == h)) := by
  unfold findsB
  rw [List.take_succ_eq_append_getElem hk, List.any_append]; simp

set_option maxRecDepth 100000 in
set_option maxHeartbeats 2000000 in
theorem rfinds_c (v : Value) (l : List Fd) (n : Int) (h : Bool) (w : World) (hs : Sl w v l.length (l.flatMap fdC)) : Calls Tryz.prog 69 #[v, .int .i64 n, .bool h] w fun e w' => e = .returned (.bool (findsB l n h)) ∧ w = w' := by
  obtain ⟨va, vp, rfl⟩ := hs.val
  have hl := hs.len
  have HS := Lib.hid hs
  clear hs
  go_enter Tryz.func69, Tryz.ntmps69
  go_wp2_with fail
  go_loop [7] (fun i => ∃ k : Nat, k ≤ l.length ∧ i = .int .i64 k ∧ Hid (findsB (l.take k) n h = false)) (fun i => l.length - (intOf i).toNat)
  case atStart => exact ⟨0, Nat.zero_le _, rfl, Lib.hid rfl⟩
  case round =>
    obtain ⟨k, hk, rfl, H⟩ := hrel
    by_cases hlt : k < l.length
    · obtain ⟨b, off, ha, hc⟩ := HS.out.at_ (by omega)
      subst ha
      have d0 := hc (k * 4 + 0) _ ((flat_get (enc := fdC) (k := 4) (fun _ => rfl) l k hlt 0 (by omega)).trans rfl)
      have d1 := hc (k * 4 + 1) _ ((flat_get (enc := fdC) (k := 4) (fun _ => rfl) l k hlt 1 (by omega)).trans rfl)
      simp only [Nat.add_zero, ← Nat.add_assoc] at d0 d1
      have HT := Lib.hid (finds_take l n h k hlt)
      have HM : Hid ((decide (l[k].says = n) && l[k].holds == h) = true → findsB l n h = true) := Lib.hid fun hh => List.any_eq_true.2 ⟨_, List.getElem_mem hlt, hh⟩
      clear hc
      generalize l[k] = x at *
      obtain ⟨xs, xh, xf, xc⟩ := x
      simp only at d0 d1 HT HM
      by_cases he : xs = n
      · subst he
        by_cases hb : xh = h
        · subst hb
          have HX : Hid (findsB l xs xh = true) := Lib.hid (HM.out (by simp))
          have hbb : (xh == xh) = true := by simp
          go_wp2_with fail
          go_ret
          exact ⟨by rw [HX.out]; rfl, rfl⟩
        · have hbb : (xh == h) = false := by simpa using hb
          have HN : Hid (findsB (l.take (k + 1)) xs h = false) := Lib.hid (by rw [HT.out, H.out, hbb]; simp)
          clear hb
          go_wp2_with fail
          go_round
          case rel => exact ⟨k + 1, by omega, by go_num, HN⟩
          case measure => simp [intOf]; omega
      · have he2 : (xs == n) = false := by simpa using he
        have HN : Hid (findsB (l.take (k + 1)) n h = false) := Lib.hid (by rw [HT.out, H.out]; simp [he])
        clear he
        go_wp2_with fail
        go_round
        case rel => exact ⟨k + 1, by omega, by go_num, HN⟩
        case measure => simp [intOf]; omega
    · obtain rfl : k = l.length := by omega
      have HX : Hid (findsB l n h = false) := Lib.hid (by have := H.out; rwa [List.take_length] at this)
      go_wp2_with fail
      go_ret
      exact ⟨by rw [HX.out]; rfl, rfl⟩

end Go.Proofs.YtfidioedjmjddaaGreat
