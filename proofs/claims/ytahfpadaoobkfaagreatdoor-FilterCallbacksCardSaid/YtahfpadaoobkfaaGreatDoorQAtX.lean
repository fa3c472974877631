/-
  Plain: a hand of a formed list with another level and seal; one more hand.
-/
import Derived.Test.YtahfpadaoobkfaaGreatDoorQS23
namespace Go.Proofs.YtahfpadaoobkfaaGreatDoor

theorem fmGo_lev {c v u : Int} : ∀ {l : List Hd}, fmGo c v l = true → (∀ x, l.head? = some x → x.lev ≤ u) → fmGo c u l = true
  | [], _, _ => rfl
  | x :: l, h, hu => by
    have := hu x rfl
    simp only [fmGo, isInB, Bool.and_eq_true, decide_eq_true_eq] at h ⊢
    exact ⟨⟨⟨h.1.1.1, ⟨h.1.1.2.1, this⟩⟩, h.1.2⟩, h.2⟩
/-- Another level, another seal. -/
theorem fmGo_set (nl : Int) (ns : ByteArray) (h0 : 0 ≤ nl) (hz : ns.size = 32) : ∀ (l : List Hd) (c v : Int) (k : Nat) (hk : k < l.length), fmGo c v l = true → (if k = 0 then nl ≤ v else nl ≤ (l.getD (k - 1) default).lev) → (if k + 1 < l.length then (l.getD (k + 1) default).lev ≤ nl else True) → fmGo c v (l.set k ⟨l[k].car, nl, ns⟩) = true
  | [], _, _, _, hk, _, _, _ => by simp at hk
  | x :: l, c, v, 0, hk, h, h1, h2 => by
    rw [if_pos rfl] at h1
    simp only [fmGo, isInB, Bool.and_eq_true, decide_eq_true_eq] at h
    have h3 : fmGo x.car nl l = true := by
      refine fmGo_lev h.2 fun y hy => ?_
      cases l with
      | nil => cases hy
      | cons z l =>
        cases hy
        simpa using h2
    simp only [List.set_cons_zero, List.getElem_cons_zero, fmGo, isInB, Bool.and_eq_true, decide_eq_true_eq]
    exact ⟨⟨⟨h.1.1.1, ⟨h0, h1⟩⟩, hz⟩, h3⟩
  | x :: l, c, v, k + 1, hk, h, h1, h2 => by
    rw [if_neg (by omega)] at h1
    have hk' : k < l.length := by simpa using hk
    have hf := h
    simp only [fmGo, Bool.and_eq_true] at h
    have ih := fmGo_set nl ns h0 hz l x.car x.lev k hk' h.2 (by
      by_cases hk0 : k = 0
      · subst hk0; rw [if_pos rfl]; simpa using h1
      · rw [if_neg hk0]
        obtain ⟨m, rfl⟩ : ∃ m, k = m + 1 := ⟨k - 1, by omega⟩
        simpa using h1) (by simpa using h2)
    simp only [List.set_cons_succ, List.getElem_cons_succ, fmGo, Bool.and_eq_true]
    exact ⟨h.1, ih⟩
/-- One more hand. -/
theorem fmB_snoc {d : Dl} {l : List Hd} (hd : dlB d = true) (hl : l.length ≤ 7) (hf : fmGo (-1) 3 l = true) (x : Hd) (h1 : 0 ≤ x.car ∧ x.car ≤ 7) (h2 : ∀ y, l.getLast? = some y → x.car ≠ y.car ∧ x.lev ≤ y.lev) (h3 : 0 ≤ x.lev ∧ x.lev ≤ 3) (hz : x.sig.size = 32) : fmB ⟨d, l ++ [x]⟩ = true := by
  have h4 : fmGo ((l.getLast?.map Hd.car).getD (-1)) ((l.getLast?.map Hd.lev).getD 3) [x] = true := by
    simp only [fmGo, isInB, Bool.and_eq_true, decide_eq_true_eq, Bool.not_eq_true', beq_eq_false_iff_ne]
    cases hg : l.getLast? with
    | none => simp; omega
    | some y => have := h2 y hg; simp; omega
  simp only [fmB, isInB, Bool.and_eq_true, decide_eq_true_eq]
  refine ⟨⟨hd, ?_⟩, by rw [fmGo_snoc, hf, h4]; rfl⟩
  simp
  omega
theorem saysM_le (keys : List ByteArray) (x : Hd × List UInt8) (h : 0 ≤ x.1.lev) : 0 ≤ saysM keys x ∧ saysM keys x ≤ x.1.lev := by
  unfold saysM
  split <;> omega

end Go.Proofs.YtahfpadaoobkfaaGreatDoor
