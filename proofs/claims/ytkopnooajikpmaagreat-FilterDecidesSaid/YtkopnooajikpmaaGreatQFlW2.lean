/-
  filter: the map of the kinds, and the conditions of a filter that are valid.
-/
import Derived.Test.YtkopnooajikpmaaGreatQFlW1
import Derived.Test.YtkopnooajikpmaaGreatQSJ
namespace Go.Proofs.YtkopnooajikpmaaGreat
open Go.RowKit Go.Lib Go.Maps

/-- The function of a kind. -/
def kindFn (k : Int) : Value := if k = 1 then .func (.func 123) #[] #[] else if k = 2 then .func (.func 124) #[] #[] else if k = 3 then .func (.func 125) #[] #[] else if k = 4 then .func (.func 126) #[] #[] else if k = 5 then .func (.func 127) #[] #[] else .nilFunc
def fnD (n : Int) : DataW Unit := .lit (.int .i64 n)
def fnR (v : Value) : Option (DataW Unit × List MemPlace) := match v with
  | .func (.func n) ⟨[]⟩ ⟨[]⟩ => some (fnD n, [])
  | .nilFunc => some (fnD (-1), [])
  | _ => none
theorem fnR_inv {v : Value} {n : Nat} {ps : List MemPlace} (h : fnR v = some (fnD n, ps)) : v = .func (.func n) #[] #[] := by
  unfold fnR at h
  split at h
  · simp only [Option.some.injEq, Prod.mk.injEq] at h
    have h1 := h.1
    unfold fnD at h1
    injection h1 with h2
    injection h2 with _ h3
    rw [Int.natCast_inj.1 h3]
  · simp only [Option.some.injEq, Prod.mk.injEq] at h
    have h1 := h.1
    unfold fnD at h1
    injection h1 with h2
    injection h2 with _ h3
    omega
  · cases h
theorem fnR_nil {v : Value} {ps : List MemPlace} (h : fnR v = some (fnD (-1), ps)) : v = .nilFunc := by
  unfold fnR at h
  split at h
  · simp only [Option.some.injEq, Prod.mk.injEq] at h
    have h1 := h.1
    unfold fnD at h1
    injection h1 with h2
    injection h2 with _ h3
    omega
  · rfl
  · cases h
theorem zeroFn (w : World) : (zeroValue 164).run Tryz.prog w = .ok .nilFunc w := by kernel_rfl

theorem eqFn (n : Nat) (w : World) : (binOp .eql 164 (.func (.func n) #[] #[]) .nilFunc).run Tryz.prog w = .ok (.bool false) w := by kernel_rfl
theorem eqNilFn (w : World) : (binOp .eql 164 .nilFunc .nilFunc).run Tryz.prog w = .ok (.bool true) w := by kernel_rfl

def kindD : DataW Unit := (((((DataW.map []).put (kL 1) (fnD 123)).put (kL 2) (fnD 124)).put (kL 3) (fnD 125)).put (kL 4) (fnD 126)).put (kL 5) (fnD 127)
/-- The map of the kinds in memory. -/
def KindsAt (w : World) (bm : Nat) : Prop := w.ownsMap Tryz.prog 3 fnR bm 5 kindD
theorem KindsAt.fr {w w' : World} {bm : Nat} (h : KindsAt w bm) (hf : Fr [] w w') : KindsAt w' bm := by
  obtain ⟨es, ck, hb, F, hs, hD⟩ := h
  exact ⟨es, ck, hf.keep hb (by simp), F, hs, hD⟩
theorem KindsAt.look {w : World} {bm : Nat} (h : KindsAt w bm) (k : Int) (hk : I64 k) : (Instr.lookup 162 (.map (some bm)) (.int .i64 k) false).run Tryz.prog w = .ok (kindFn k) w := by
  obtain ⟨v, ps, hrun, hv⟩ := World.ownsMap.lookup h keyedI Tryz.underlying162 (zeroFn w) (zd := fnD (-1)) rfl (keyI (k := k) hk)
  have m0 : IsMap (DataW.map [] : DataW Unit) := ⟨_, rfl⟩
  have m1 := m0.put (kL 1) (fnD 123)
  have m2 := m1.put (kL 2) (fnD 124)
  have m3 := m2.put (kL 3) (fnD 125)
  have m4 := m3.put (kL 4) (fnD 126)
  have hkv : v = kindFn k := by
    unfold kindD at hv
    unfold kindFn
    by_cases h5 : k = 5
    · subst h5
      rw [atKey_put_same m4 (kL_key _)] at hv
      exact fnR_inv hv
    · rw [atKey_put_other (kL_ne h5)] at hv
      by_cases h4 : k = 4
      · subst h4
        rw [atKey_put_same m3 (kL_key _)] at hv
        exact fnR_inv hv
      · rw [atKey_put_other (kL_ne h4)] at hv
        by_cases h3 : k = 3
        · subst h3
          rw [atKey_put_same m2 (kL_key _)] at hv
          exact fnR_inv hv
        · rw [atKey_put_other (kL_ne h3)] at hv
          by_cases h2 : k = 2
          · subst h2
            rw [atKey_put_same m1 (kL_key _)] at hv
            exact fnR_inv hv
          · rw [atKey_put_other (kL_ne h2)] at hv
            by_cases h1 : k = 1
            · subst h1
              rw [atKey_put_same m0 (kL_key _)] at hv
              exact fnR_inv hv
            · rw [atKey_put_other (kL_ne h1)] at hv
              simp only [h1, h2, h3, h4, h5, if_false]
              exact fnR_nil hv
  rw [← hkv]
  exact hrun

set_option maxRecDepth 100000 in
theorem valids_c (w : World) : Calls Tryz.prog 99 #[] w fun e w' => ∃ bm, e = .returned (.map (some bm)) ∧ KindsAt w' bm ∧ Fr [] w w' ∧ w.heap.size ≤ bm := by
  have o0 := World.ownsMap_made w Tryz.prog 3 fnR
  obtain ⟨w1, r1, o1, g1⟩ := o0.update keyedI Tryz.underlying162 (by simp [maxLen]) (keyI (k := 1) (by constructor <;> omega)) (val := .func (.func 123) #[] #[]) rfl
  obtain ⟨w2, r2, o2, g2⟩ := o1.update keyedI Tryz.underlying162 (by simp [maxLen]) (keyI (k := 2) (by constructor <;> omega)) (val := .func (.func 124) #[] #[]) rfl
  obtain ⟨w3, r3, o3, g3⟩ := o2.update keyedI Tryz.underlying162 (by simp [maxLen]) (keyI (k := 3) (by constructor <;> omega)) (val := .func (.func 125) #[] #[]) rfl
  obtain ⟨w4, r4, o4, g4⟩ := o3.update keyedI Tryz.underlying162 (by simp [maxLen]) (keyI (k := 4) (by constructor <;> omega)) (val := .func (.func 126) #[] #[]) rfl
  obtain ⟨w5, r5, o5, g5⟩ := o4.update keyedI Tryz.underlying162 (by simp [maxLen]) (keyI (k := 5) (by constructor <;> omega)) (val := .func (.func 127) #[] #[]) rfl
  have hg : ∀ {a b : World}, a.grownBy b (some w.heap.size) → Fr [w.heap.size] a b := fun h => Fr.grown h fun q hq => by cases hq; simp
  have HF : Hid (Fr [] w w5) := Lib.hid ((Fr.alloc [] w (.map #[] 0)).step (((((hg g1).trans (hg g2)).trans (hg g3)).trans (hg g4)).trans (hg g5)) (fun i hi => by simp at hi; exact .inr (by omega)))
  have HO := Lib.hid o5
  clear o0 o1 o2 o3 o4 o5 g1 g2 g3 g4 g5 hg
  have hmm := @run_makeMap Tryz.prog
  go_enter Tryz.func99, Tryz.ntmps99
  go_wp2_with fail
  go_ret
  exact ⟨_, rfl, HO.out, HF.out, Nat.le_refl _⟩

set_option maxRecDepth 100000 in
set_option maxHeartbeats 1000000 in
theorem fValid1_c (x : Cd) (B bm : Nat) (w : World) (hB : w.heap[B]? = some (.cells #[.map (some bm)] 162 (0, 0))) (hK : KindsAt w bm) (hx : I64 x.kind) : Calls Tryz.prog 100 #[cdV x, .pointer (some ⟨B, 0, none⟩)] w fun e w' => e = .returned (.bool (!cdB x)) ∧ Fr [] w w' := by
  have hB2 := cell_of_blk (heap_alloc_old (.cells #[.int .i64 x.kind, .int .i64 x.lo, .int .i64 x.hi, .bool x.neg] 93) hB) 0
  have hrun := (hK.fr (Fr.alloc [] w (.cells #[.int .i64 x.kind, .int .i64 x.lo, .int .i64 x.hi, .bool x.neg] 93))).look x.kind hx
  have FA := Lib.hid (Fr.alloc [] w (.cells #[.int .i64 x.kind, .int .i64 x.lo, .int .i64 x.hi, .bool x.neg] 93))
  have eg1 := fun args w => (rfl : (callFunc 123 args).run Tryz.prog w = .ok (.enter 123 args) w)
  have eg2 := fun args w => (rfl : (callFunc 124 args).run Tryz.prog w = .ok (.enter 124 args) w)
  have eg3 := fun args w => (rfl : (callFunc 125 args).run Tryz.prog w = .ok (.enter 125 args) w)
  have eg4 := fun args w => (rfl : (callFunc 126 args).run Tryz.prog w = .ok (.enter 126 args) w)
  have eg5 := fun args w => (rfl : (callFunc 127 args).run Tryz.prog w = .ok (.enter 127 args) w)
  obtain ⟨k, lo, hi, ng⟩ := x
  simp only at hB2 hrun FA hx
  clear hB hK hx
  unfold cdV
  simp only
  by_cases h1 : k = 1
  · subst h1
    rw [show kindFn 1 = .func (.func 123) #[] #[] by rfl] at hrun
    have hq := eqFn 123 (w.alloc (.cells #[.int .i64 1, .int .i64 lo, .int .i64 hi, .bool ng] 93))
    go_enter Tryz.func100, Tryz.ntmps100
    go_wp2_with fail
    refine (fLevel_c ⟨1, lo, hi, ng⟩ _).mono ?_
    rintro e w1 ⟨rfl, f1⟩
    go_wp2_with fail
    go_ret
    exact ⟨by simp [cdB, cdK, isInB], FA.out.trans f1⟩
  · by_cases h2 : k = 2
    · subst h2
      rw [show kindFn 2 = .func (.func 124) #[] #[] by rfl] at hrun
      clear h1
      have hq := eqFn 124 (w.alloc (.cells #[.int .i64 2, .int .i64 lo, .int .i64 hi, .bool ng] 93))
      go_enter Tryz.func100, Tryz.ntmps100
      go_wp2_with fail
      refine (fRange_c ⟨2, lo, hi, ng⟩ _).mono ?_
      rintro e w1 ⟨rfl, f1⟩
      go_wp2_with fail
      go_ret
      exact ⟨by simp [cdB, cdK, isInB], FA.out.trans f1⟩
    · by_cases h3 : k = 3
      · subst h3
        rw [show kindFn 3 = .func (.func 125) #[] #[] by rfl] at hrun
        clear h1 h2
        have hq := eqFn 125 (w.alloc (.cells #[.int .i64 3, .int .i64 lo, .int .i64 hi, .bool ng] 93))
        go_enter Tryz.func100, Tryz.ntmps100
        go_wp2_with fail
        refine (fHours_c ⟨3, lo, hi, ng⟩ _).mono ?_
        rintro e w1 ⟨rfl, f1⟩
        go_wp2_with fail
        go_ret
        exact ⟨by simp [cdB, cdK, isInB], FA.out.trans f1⟩
      · by_cases h4 : k = 4
        · subst h4
          rw [show kindFn 4 = .func (.func 126) #[] #[] by rfl] at hrun
          clear h1 h2 h3
          have hq := eqFn 126 (w.alloc (.cells #[.int .i64 4, .int .i64 lo, .int .i64 hi, .bool ng] 93))
          go_enter Tryz.func100, Tryz.ntmps100
          go_wp2_with fail
          refine (fForwards_c ⟨4, lo, hi, ng⟩ _).mono ?_
          rintro e w1 ⟨rfl, f1⟩
          go_wp2_with fail
          go_ret
          exact ⟨by simp [cdB, cdK, isInB], FA.out.trans f1⟩
        · by_cases h5 : k = 5
          · subst h5
            rw [show kindFn 5 = .func (.func 127) #[] #[] by rfl] at hrun
            clear h1 h2 h3 h4
            have hq := eqFn 127 (w.alloc (.cells #[.int .i64 5, .int .i64 lo, .int .i64 hi, .bool ng] 93))
            go_enter Tryz.func100, Tryz.ntmps100
            go_wp2_with fail
            refine (fSays_c ⟨5, lo, hi, ng⟩ _).mono ?_
            rintro e w1 ⟨rfl, f1⟩
            go_wp2_with fail
            go_ret
            exact ⟨by simp [cdB, cdK, isInB], FA.out.trans f1⟩
          · rw [show kindFn k = .nilFunc by simp [kindFn, h1, h2, h3, h4, h5]] at hrun
            have HB : Hid (cdB ⟨k, lo, hi, ng⟩ = false) := Lib.hid (by
              have : isInB k 1 5 = false := by cases h : isInB k 1 5 with | false => rfl | true => rw [isInB_iff] at h; omega
              simp [cdB, this])
            clear h1 h2 h3 h4 h5
            have hq := eqNilFn (w.alloc (.cells #[.int .i64 k, .int .i64 lo, .int .i64 hi, .bool ng] 93))
            go_enter Tryz.func100, Tryz.ntmps100
            go_wp2_with fail
            go_ret
            exact ⟨by rw [HB.out]; rfl, FA.out⟩

end Go.Proofs.YtkopnooajikpmaaGreat
