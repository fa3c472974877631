/-
  statute: ascends, and Valid's predicates.
-/
import Derived.Test.YtfidioedjmjddaaGreatQStC
namespace Go.Proofs.YtfidioedjmjddaaGreat
open Go.RowKit Go.Lib

theorem alloc2' (w : World) (x y : Obj) : ((w.alloc x).alloc y).heap[w.heap.size]? = some x ∧ ((w.alloc x).alloc y).heap[w.heap.size + 1]? = some y := by
  have h : (w.alloc x).heap.size = w.heap.size + 1 := by simp
  exact ⟨heap_alloc_old _ (heap_alloc_new w x), h ▸ heap_alloc_new (w.alloc x) y⟩

def ascP (l : List Int) (below : Int) (k : Nat) : Bool := !isInB (l.getD k 0) (((-1) :: l).getD k 0 + 1) (below - 1)
theorem ascGo_any (below : Int) : ∀ (l : List Int) (last : Int), ascGo below last l = !anyN (fun k => !isInB (l.getD k 0) ((last :: l).getD k 0 + 1) (below - 1)) l.length
  | [], _ => rfl
  | n :: l, last => by
    rw [ascGo, ascGo_any below l n, List.length_cons, anyN_succ]
    simp only [List.getD_cons_zero, List.getD_cons_succ, Bool.not_or, Bool.not_not]

set_option maxRecDepth 100000 in
set_option maxHeartbeats 800000 in
theorem asc1_c (BL BB : Nat) (n before below : Int) (w : World) (hl : w.heap[BL]? = some (.cells #[.int .i64 before] 3 (0, 0))) (hb : w.heap[BB]? = some (.cells #[.int .i64 below] 3 (0, 0))) (hne : BB ≠ BL) (h1 : -9223372036854775808 ≤ before) (h2 : before < 9223372036854775807) (h3 : -9223372036854775808 < below) (h4 : below ≤ 9223372036854775807) :
    Calls Tryz.prog 57 #[.int .i64 n, .pointer (some ⟨BL, 0, none⟩), .pointer (some ⟨BB, 0, none⟩)] w fun e w' => e = .returned (.bool (!isInB n (before + 1) (below - 1))) ∧ w' = w.setCell ⟨BL, 0, none⟩ (.int .i64 n) := by
  have c1 : w.cell? ⟨BL, 0, none⟩ = some (.int .i64 before) := cell_of_blk hl 0
  have f1 := free_of_blk hl 0
  have c2 : w.cell? ⟨BB, 0, none⟩ = some (.int .i64 below) := cell_of_blk hb 0
  clear hl hb
  go_enter Tryz.func57, Tryz.ntmps57
  go_wp2_with (first | (go_at_call 34; refine (isIn_c _ _ _ _).mono ?_; rintro e w' ⟨rfl, rfl⟩))
  go_ret
  exact ⟨rfl, rfl⟩

set_option maxRecDepth 100000 in
set_option maxHeartbeats 800000 in
set_option maxRecDepth 100000 in
theorem ascends_c (v : Value) (l : List Int) (below : Int) (w : World) (hs : IntsAt w v l) (hi : ∀ m, m ∈ l → I64 m) (hb : 0 ≤ below) (hb2 : below ≤ 9223372036854775807) :
    Calls Tryz.prog 35 #[v, .int .i64 below] w fun e w' => e = .returned (.bool (ascB l below)) ∧ Fr [] w w' := by
  obtain ⟨a, cap, rfl⟩ := hs.val
  have hlen := hs.len
  have HS := Lib.hid hs; have HI := Lib.hid hi; clear hs hi
  by_cases h4 : l.length ≤ 4
  · have e1 : ascB l below = !anyN (ascP l below) l.length := by
      rw [ascB, ascGo_any]; simp only [h4, decide_true, Bool.true_and]; rfl
    have e2 : Hid (∀ k, (-1 :: l).getD (k + 1) 0 = l.getD k 0) := Lib.hid fun k => rfl
    have cc : Hid (∀ (W : World) (BB BL : Nat), Fr [] w W → W.heap[BB]? = some (.cells #[.int .i64 below] 3 (0, 0)) → W.heap[BL]? = some (.cells #[.int .i64 (-1)] 3 (0, 0)) → w.heap.size ≤ BL → BB ≠ BL →
        Calls Tryz.prog 58 #[.slice a l.length cap, .func (.func 57) #[] #[.pointer (some ⟨BL, 0, none⟩), .pointer (some ⟨BB, 0, none⟩)]] W fun e w' => e = .returned (.bool (anyN (ascP l below) l.length)) ∧ Fr [] w w') := Lib.hid fun W BB BL hf hB hL hn hne => by
      refine (cfInt_c 57 #[.pointer (some ⟨BL, 0, none⟩), .pointer (some ⟨BB, 0, none⟩)] (fun _ _ => rfl) a cap l (ascP l below) (fun k W' => Fr [BL] W W' ∧ W'.heap[BL]? = some (.cells #[.int .i64 (((-1) :: l).getD k 0)] 3 (0, 0))) W ?_ ?_ ?_).mono ?_
      · intro k W' hJ
        exact HS.out.same (hf.step hJ.1 (fun i hi => by simp at hi; exact .inr (by omega)))
      · intro k W' hk hp hJ
        have hbb := hJ.1.keep hB (by simpa using hne)
        have hbd : -9223372036854775808 ≤ ((-1) :: l).getD k 0 ∧ ((-1) :: l).getD k 0 < 9223372036854775807 := by
          cases k with
          | zero => simp
          | succ k =>
            have h5 := hp k (by omega)
            have h6 := HI.out (l.getD k 0) (by
              have : k < l.length := by omega
              simp [this])
            simp only [ascP, Bool.not_eq_false', isInB_iff] at h5
            rw [e2.out k]
            exact ⟨h6.1, by omega⟩
        refine (asc1_c BL BB (l.getD k 0) _ below W' hJ.2 hbb hne hbd.1 hbd.2 (by omega) hb2).mono ?_
        rintro e w' ⟨rfl, rfl⟩
        refine ⟨rfl, hJ.1.trans (Fr.setCell _ _ (by simp)), ?_⟩
        rw [heap_setCell_same _ hJ.2, e2.out k]
        rfl
      · exact ⟨Fr.refl _ _, hL⟩
      · rintro e w' ⟨rfl, k, hJ⟩
        exact ⟨rfl, hf.step hJ.1 (fun i hi => by simp at hi; exact .inr (by omega))⟩
    rw [e1]
    generalize anyN (ascP l below) l.length = r at *
    clear e1
    go_enter Tryz.func35, Tryz.ntmps35
    go_wp2_with fail
    refine (cc.out _ w.heap.size (w.heap.size + 1) ((Fr.alloc _ _ _).trans (Fr.alloc _ _ _)) (alloc2' w _ _).1 (alloc2' w _ _).2 (by omega) (by omega)).mono ?_
    rintro e w1 ⟨rfl, f1⟩
    have F1 := Lib.hid f1; clear f1 cc
    go_wp2_with fail
    go_ret
    exact ⟨rfl, F1.out⟩
  · rw [show ascB l below = false by simp [ascB, h4]]
    go_enter Tryz.func35, Tryz.ntmps35
    go_wp2_with fail
    go_ret
    exact ⟨rfl, (Fr.alloc _ _ _).trans (Fr.alloc _ _ _)⟩

set_option maxRecDepth 100000 in
set_option maxHeartbeats 4000000 in
theorem valid1_c (y : ClV) (w : World) (hn : IntsAt w y.vn y.x.needs) (hb : IntsAt w y.vb y.x.bars) (hok : ClOk y.x) : Calls Tryz.prog 31 #[clV y] w fun e w' => e = .returned (.bool (!clB y.x)) ∧ Fr [] w w' := by
  obtain ⟨⟨pub, f, t, needs, bars, gives⟩, vn, vb⟩ := y
  simp only at hn hb
  have HN := Lib.hid hn; have HB := Lib.hid hb; have HK := Lib.hid hok; clear hn hb hok
  have knew : ∀ W : World, Fr [] (w.alloc (.cells #[.int .i64 pub, .int .i64 f, .int .i64 t, vn, vb, .int .i64 gives] 67)) W → W.heap[w.heap.size]? = some (.cells #[.int .i64 pub, .int .i64 f, .int .i64 t, vn, vb, .int .i64 gives] 67 (0, 0)) := fun W hf => hf.keep (heap_alloc_new _ _) (by simp)
  have Knew := Lib.hid knew; clear knew
  unfold clV clB
  simp only
  go_enter Tryz.func31, Tryz.ntmps31
  go_wp2_with fail
  refine (isSecond_c _ _).mono ?_
  rintro e w0 ⟨rfl, rfl⟩
  cases h1 : secB pub
  · go_wp2_with fail
    go_ret
    exact ⟨by simp [h1], Fr.alloc _ _ _⟩
  · go_wp2_with fail
    refine (isSpell_c _ _ _).mono ?_
    rintro e w1 ⟨rfl, f1⟩
    have K1 := Knew.out w1 f1
    have F1 := Lib.hid f1
    have g3 : w1.cell? ⟨w.heap.size, 3, none⟩ = some vn := cell_of_blk K1 3
    have g5 : w1.cell? ⟨w.heap.size, 5, none⟩ = some (.int .i64 gives) := cell_of_blk K1 5
    clear f1 K1
    cases h2 : spellB f t
    · go_wp2_with fail
      go_ret
      exact ⟨by simp [h1, h2], (Fr.alloc _ _ _).trans F1.out⟩
    · go_wp2_with fail
      refine (isIn_c _ _ _ _).mono ?_
      rintro e w1b ⟨rfl, rfl⟩
      cases h3 : isInB gives 0 19
      · go_wp2_with fail
        go_ret
        exact ⟨by simp [h1, h2, h3], (Fr.alloc _ _ _).trans F1.out⟩
      · have hg := isInB_iff.1 h3
        go_wp2_with fail
        refine (ascends_c vn needs gives _ (HN.out.same ((Fr.alloc _ _ _).trans F1.out)) HK.out.needs hg.1 (by omega)).mono ?_
        rintro e w2 ⟨rfl, f2⟩
        have K2 := Knew.out w2 (F1.out.trans f2)
        have F2 := Lib.hid (F1.out.trans f2)
        have k4 : w2.cell? ⟨w.heap.size, 4, none⟩ = some vb := cell_of_blk K2 4
        have k5 : w2.cell? ⟨w.heap.size, 5, none⟩ = some (.int .i64 gives) := cell_of_blk K2 5
        clear f2 K2
        cases h4 : ascB needs gives
        · go_wp2_with fail
          go_ret
          exact ⟨by simp [h1, h2, h3, h4], (Fr.alloc _ _ _).trans F2.out⟩
        · go_wp2_with fail
          refine (ascends_c vb bars gives _ (HB.out.same ((Fr.alloc _ _ _).trans F2.out)) HK.out.bars hg.1 (by omega)).mono ?_
          rintro e w3 ⟨rfl, f3⟩
          have F3 := Lib.hid (F2.out.trans f3); clear f3
          go_wp2_with fail
          go_ret
          exact ⟨by simp [h1, h2, h3, h4], (Fr.alloc _ _ _).trans F3.out⟩

set_option maxRecDepth 100000 in
set_option maxHeartbeats 4000000 in
theorem valid2_c (x : Rp) (B n : Nat) (a : Option Addr) (cap : Nat) (w : World) (hB : w.cell? ⟨B, 0, none⟩ = some (.slice a n cap)) (hbl : B < w.heap.size) (hn : n ≤ 9223372036854775807) : Calls Tryz.prog 37 #[rpV x, .pointer (some ⟨B, 0, none⟩)] w fun e w' => e = .returned (.bool (!rpB n x)) ∧ Fr [] w w' := by
  obtain ⟨cl, pub, frm⟩ := x
  unfold rpV rpB
  simp only
  have hB2 : (w.alloc (.cells #[.int .i64 cl, .int .i64 pub, .int .i64 frm] 60)).cell? ⟨B, 0, none⟩ = some (.slice a n cap) := (World.cell?_of_block (Below.heap_alloc _ _ _ hbl)).trans hB
  have e2 : (0 : Int) - 1 = -1 := rfl
  go_enter Tryz.func37, Tryz.ntmps37
  go_wp2_with fail
  refine (isIn_c _ _ _ _).mono ?_
  rintro e w0 ⟨rfl, rfl⟩
  cases h1 : isInB cl 0 ((n : Int) - 1)
  · go_wp2_with fail
    go_ret
    exact ⟨by simp [h1], Fr.alloc _ _ _⟩
  · go_wp2_with fail
    refine (isSecond_c _ _).mono ?_
    rintro e w0 ⟨rfl, rfl⟩
    cases h2 : secB pub
    · go_wp2_with fail
      go_ret
      exact ⟨by simp [h1, h2], Fr.alloc _ _ _⟩
    · go_wp2_with fail
      refine (isSecond_c _ _).mono ?_
      rintro e w0 ⟨rfl, rfl⟩
      go_wp2_with fail
      go_ret
      exact ⟨by simp [h1, h2], Fr.alloc _ _ _⟩

set_option maxRecDepth 100000 in
set_option maxHeartbeats 4000000 in
theorem valid3_c (x : Fa) (w : World) : Calls Tryz.prog 39 #[faV x] w fun e w' => e = .returned (.bool (!faB x)) ∧ Fr [] w w' := by
  obtain ⟨th, sa, f, t, kf, kt⟩ := x
  unfold faV faB
  simp only
  go_enter Tryz.func39, Tryz.ntmps39
  go_wp2_with fail
  refine (isIn_c _ _ _ _).mono ?_
  rintro e w0 ⟨rfl, rfl⟩
  cases h1 : isInB th 0 99999999
  · go_wp2_with fail
    go_ret
    exact ⟨by simp [h1], Fr.alloc _ _ _⟩
  · go_wp2_with fail
    refine (isIn_c _ _ _ _).mono ?_
    rintro e w0 ⟨rfl, rfl⟩
    cases h2 : isInB sa 0 19
    · go_wp2_with fail
      go_ret
      exact ⟨by simp [h1, h2], Fr.alloc _ _ _⟩
    · go_wp2_with fail
      refine (isSpell_c _ _ _).mono ?_
      rintro e w1 ⟨rfl, f1⟩
      have K1 := f1.keep (heap_alloc_new w (.cells #[.int .i64 th, .int .i64 sa, .int .i64 f, .int .i64 t, .int .i64 kf, .int .i64 kt] 74)) (by simp)
      have g4 : w1.cell? ⟨w.heap.size, 4, none⟩ = some (.int .i64 kf) := cell_of_blk K1 4
      have g5 : w1.cell? ⟨w.heap.size, 5, none⟩ = some (.int .i64 kt) := cell_of_blk K1 5
      have F1 := Lib.hid ((Fr.alloc [] _ _).trans f1)
      clear K1 f1
      cases h3 : spellB f t
      · go_wp2_with fail
        go_ret
        exact ⟨by simp [h1, h2, h3], F1.out⟩
      · go_wp2_with fail
        refine (isSpell_c _ _ _).mono ?_
        rintro e w2 ⟨rfl, f2⟩
        have F2 := Lib.hid (F1.out.trans f2); clear f2
        go_wp2_with fail
        go_ret
        exact ⟨by simp [h1, h2, h3], F2.out⟩

end Go.Proofs.YtfidioedjmjddaaGreat
