/-
  The survivors of a crash are the pending writes whose numbers are kept: plain facts.
-/
import Derived.Test.YtanjjgodlgmfcaaL9f
namespace Go.Proofs.Ytanjjgodlgmfcaa
open Go.RowKit Go.Lib

theorem compactUpTo_sorted {zs : List Int} (h : zs.Pairwise (· ≤ ·)) : ∀ m, m ≤ zs.length → (compactUpTo zs.toArray m).Pairwise (· < ·) ∧ ∀ x, x ∈ compactUpTo zs.toArray m ↔ x ∈ zs.take m := by
  intro m
  induction m with
  | zero => intro _; simp [compactUpTo]
  | succ m ih =>
    intro hm
    obtain ⟨h1, h2⟩ := ih (by omega)
    have hg : zs.toArray[m]! = zs[m] := by rw [getElem!_pos zs.toArray m (by simp; omega)]; simp
    have ht : zs.take (m + 1) = zs.take m ++ [zs[m]] := List.take_succ_eq_append_getElem (by omega)
    rw [compactUpTo_succ, hg, ht]
    cases hk : keeps zs.toArray m with
    | true =>
      simp only [if_true]
      refine ⟨List.pairwise_append.2 ⟨h1, by simp, fun x hx y hy => ?_⟩, fun x => by rw [List.mem_append, List.mem_append, h2 x]⟩
      simp only [List.mem_singleton] at hy
      subst hy
      have hx2 := (h2 x).1 hx
      obtain ⟨j, hj, rfl⟩ := List.getElem_of_mem hx2
      simp only [List.length_take] at hj
      have hm0 : 0 < m := by omega
      rw [List.getElem_take]
      have hl : zs[j] ≤ zs[m - 1] := by
        rcases Nat.lt_or_ge j (m - 1) with h3 | h3
        · exact List.pairwise_iff_getElem.1 h j (m - 1) (by omega) (by omega) h3
        · have : j = m - 1 := by omega
          subst this
          exact Int.le_refl _
      have hl2 : zs[m - 1] ≤ zs[m] := List.pairwise_iff_getElem.1 h (m - 1) m (by omega) (by omega) (by omega)
      have hne : zs[m] ≠ zs[m - 1] := by
        have hg1 : zs.toArray[m - 1]! = zs[m - 1] := by rw [getElem!_pos zs.toArray (m - 1) (by simp; omega)]; simp
        simp only [keeps, hg, hg1, decide_eq_true_eq] at hk
        rcases hk with hk | hk
        · omega
        · exact hk
      omega
    | false =>
      simp only [Bool.false_eq_true, if_false, List.append_nil]
      refine ⟨h1, fun x => ?_⟩
      rw [h2 x]
      have hm0 : 0 < m := by
        rcases Nat.eq_zero_or_pos m with h0 | h0
        · rw [h0] at hk; simp [keeps] at hk
        · exact h0
      have hg1 : zs.toArray[m - 1]! = zs[m - 1] := by rw [getElem!_pos zs.toArray (m - 1) (by simp; omega)]; simp
      simp only [keeps, hg, hg1, decide_eq_false_iff_not, not_or, Classical.not_not] at hk
      constructor
      · intro hx; exact List.mem_append_left _ hx
      · intro hx
        rcases List.mem_append.1 hx with hx | hx
        · exact hx
        · simp only [List.mem_singleton] at hx
          rw [hx, hk.2]
          refine List.mem_iff_getElem.2 ⟨m - 1, by simp; omega, by simp⟩

theorem survL_eq (m : Nat) (keep : List Int) : survL m keep = keptI (fun i => keep.contains (i : Int)) m := by
  have hs : (sortI keep).Pairwise (· ≤ ·) := by
    have := List.pairwise_mergeSort (le := fun (x y : Int) => decide (x ≤ y)) (fun a b c h1 h2 => by simp at *; omega) (fun a b => by simp; omega) keep
    exact this.imp fun h => by simpa using h
  obtain ⟨h1, h2⟩ := compactUpTo_sorted hs (sortI keep).length (Nat.le_refl _)
  have h3 : (survL m keep).Pairwise (· < ·) := h1.filter _
  have h4 : ∀ x, x ∈ survL m keep ↔ x ∈ keptI (fun i => keep.contains (i : Int)) m := by
    intro x
    have e : x ∈ Lib.compact (sortI keep) ↔ x ∈ keep := by
      rw [Lib.compact, h2 x, List.take_length]
      exact (List.mergeSort_perm _ _).mem_iff
    unfold survL keepP keptI
    simp only [List.mem_filter, e, List.mem_map, List.mem_range]
    constructor
    · rintro ⟨hx, ho⟩
      simp only [outP, Bool.not_or, Bool.and_eq_true, Bool.not_eq_true', decide_eq_false_iff_not] at ho
      exact ⟨x.toNat, ⟨by omega, by rw [Int.toNat_of_nonneg (by omega)]; simpa using hx⟩, by omega⟩
    · rintro ⟨i, ⟨hi, hc⟩, rfl⟩
      exact ⟨by simpa using hc, by simp [outP]; omega⟩
  have n1 : (survL m keep).Nodup := h3.imp fun h => by omega
  have n2 : (keptI (fun i => keep.contains (i : Int)) m).Nodup := (keptI_sorted _ m).imp fun h => by omega
  exact sorted_unique (h3.imp fun h => by omega) ((keptI_sorted _ m).imp fun h => by omega) ((List.perm_ext_iff_of_nodup n1 n2).2 h4)

/-- The kept writes. -/
def keptP (pend : List (Nat × ByteArray)) (kp : Nat → Bool) (k : Nat) : List (Nat × ByteArray) := (keptI kp k).map fun i => pend.getD i.toNat (0, ByteArray.empty)
theorem keptP_pos (pend : List (Nat × ByteArray)) (kp : Nat → Bool) (k : Nat) (hk : k < pend.length) (h : kp k = true) : keptP pend kp (k + 1) = keptP pend kp k ++ [pend[k]] := by
  simp [keptP, keptI_pos kp k h, hk]
theorem keptP_neg (pend : List (Nat × ByteArray)) (kp : Nat → Bool) (k : Nat) (h : kp k = false) : keptP pend kp (k + 1) = keptP pend kp k := by
  simp [keptP, keptI_neg kp k h]
theorem keptP_len (pend : List (Nat × ByteArray)) (kp : Nat → Bool) (k : Nat) : (keptP pend kp k).length = (keptI kp k).length := by simp [keptP]

/-- The j-th survivor, as the reference cuts it. -/
theorem survS_kept (pend : List (Nat × ByteArray)) (kp : Nat → Bool) (K : Nat) (torn : Int) (j : Nat) (hj : j < (keptP pend kp K).length) :
    survS pend (keptI kp K) torn j = ((keptP pend kp K)[j].1, if j + 1 = (keptP pend kp K).length ∧ 0 ≤ torn ∧ torn < (keptP pend kp K)[j].2.size then (keptP pend kp K)[j].2.extract 0 torn.toNat else (keptP pend kp K)[j].2) := by
  have hj' : j < (keptI kp K).length := by rw [← keptP_len pend kp K]; exact hj
  have eq : (keptP pend kp K)[j] = pend.getD ((keptI kp K).getD j 0).toNat (0, ByteArray.empty) := by simp [keptP, hj']
  rw [keptP_len, eq]
  unfold survS
  generalize pend.getD ((keptI kp K).getD j 0).toNat (0, ByteArray.empty) = q
  obtain ⟨o, s⟩ := q
  by_cases h : j + 1 = (keptI kp K).length ∧ 0 ≤ torn
  · rw [if_pos h]
    by_cases h2 : torn < s.size
    · rw [if_pos ⟨h.1, h.2, h2⟩, show min torn.toNat s.size = torn.toNat by omega]
    · rw [if_neg (fun hh => h2 hh.2.2), show min torn.toNat s.size = s.size by omega]
      simp
  · rw [if_neg h, if_neg (fun hh => h ⟨hh.1, hh.2.1⟩)]

end Go.Proofs.Ytanjjgodlgmfcaa
