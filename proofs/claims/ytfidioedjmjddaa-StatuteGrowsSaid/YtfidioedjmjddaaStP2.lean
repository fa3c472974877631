/-
  The plain law of chapter 8, second part: what Decide returns is a proof, and no finding of it can be left out.
-/
import Derived.Test.YtfidioedjmjddaaStP
namespace Go.Proofs.Ytfidioedjmjddaa

section
variable {c : Rb} {fs cs : List Int}

theorem fdTo_map (k : Nat) : fdTo c fs cs k = (List.range k).map fun j : Nat => fdOf c fs cs (j : Int) := by
  apply List.ext_getElem?
  intro j
  by_cases hj : j < k
  · have h1 := fdTo_of (c := c) (fs := fs) (cs := cs) k j hj
    rw [List.getD_eq_getElem?_getD] at h1
    have hl : j < (fdTo c fs cs k).length := by rw [fdTo_length]; exact hj
    rw [List.getElem?_eq_getElem hl] at h1 ⊢
    simp only [Option.getD_some] at h1
    simp [h1, hj]
  · rw [List.getElem?_eq_none (by rw [fdTo_length]; omega), List.getElem?_eq_none (by simp; omega)]

theorem fdTo_mem {k : Nat} {x : Fd} : x ∈ fdTo c fs cs k ↔ ∃ j : Nat, j < k ∧ x = fdOf c fs cs j := by
  rw [fdTo_map]
  simp only [List.mem_map, List.mem_range]
  constructor
  · rintro ⟨j, hj, rfl⟩; exact ⟨j, hj, rfl⟩
  · rintro ⟨j, hj, rfl⟩; exact ⟨j, hj, rfl⟩
theorem fdTo_sorted (k : Nat) : (fdTo c fs cs k).Pairwise (fun a b => a.says < b.says) := by
  rw [fdTo_map, List.pairwise_map]
  refine List.pairwise_lt_range.imp fun {a b} h => ?_
  rw [fdOf_says _ (by omega), fdOf_says _ (by omega)]
  omega
theorem fdTo_last (k : Nat) : (fdTo c fs cs (k + 1)).getLast? = some (fdOf c fs cs k) := by
  rw [fdTo_map, List.range_succ]
  simp

/-- The findings below k in front of a tail: a proof if the tail is right. -/
theorem front_proves (hG : Good c fs cs) {n : Int} {h : Bool} {A T : List Fd} {k : Nat} (hA : ∀ x, x ∈ A → x ∈ fdTo c fs cs k) (hT : T ≠ []) (hk : ∀ x, x ∈ T → (k : Int) ≤ x.says)
    (hp : provesB c fs cs n h (A ++ T) = true) : provesB c fs cs n h (fdTo c fs cs k ++ T) = true := by
  unfold provesB at hp ⊢
  simp only [Bool.and_eq_true, decide_eq_true_eq] at hp ⊢
  obtain ⟨⟨⟨h1, h2⟩, h3⟩, h4⟩ := hp
  have hall := provesGo_all h1
  have hso := provesGo_sorted h1
  have e : (A ++ T).getLast? = (fdTo c fs cs k ++ T).getLast? := by
    rw [List.getLast?_append, List.getLast?_append]
    cases hl : T.getLast? with
    | none => rw [List.getLast?_eq_none_iff] at hl; exact absurd hl hT
    | some x => rfl
  have hTs : T.Pairwise (fun a b => a.says < b.says) := (List.pairwise_append.1 hso).2.1
  have hk19 : ∀ j : Nat, j < k → (j : Int) ≤ 19 := by
    intro j hj
    cases hT' : T with
    | nil => exact absurd hT' hT
    | cons y T' =>
      have := hall y (by rw [hT']; simp)
      have := hk y (by rw [hT']; simp)
      omega
  refine ⟨⟨⟨provesGo_mk ?_ ?_, by simp [hT]⟩, ?_⟩, ?_⟩
  · refine List.pairwise_append.2 ⟨fdTo_sorted k, hTs, fun a ha b hb => ?_⟩
    obtain ⟨j, hj, rfl⟩ := fdTo_mem.1 ha
    rw [fdOf_says _ (by omega)]
    have := hk b hb
    omega
  · intro x hx
    rcases List.mem_append.1 hx with hx | hx
    · obtain ⟨j, hj, rfl⟩ := fdTo_mem.1 hx
      rw [fdOf_says _ (by omega)]
      exact ⟨by omega, hk19 j hj, fd_right hG j fun i hi => List.mem_append_left _ (fdTo_mem.2 ⟨i, by omega, rfl⟩)⟩
    · have h5 := hall x (List.mem_append_right _ hx)
      refine ⟨h5.1, h5.2.1, rightB_mono (fun y hy => ?_) h5.2.2⟩
      rcases List.mem_append.1 hy with hy | hy
      · exact List.mem_append_left _ (hA y hy)
      · exact List.mem_append_right _ hy
  · rw [← h3]; unfold lastOf; rw [e]
  · rw [← e]; exact h4

theorem full_proves (hG : Good c fs cs) (n : Nat) (hn : n ≤ 19) : provesB c fs cs n (soB c fs cs n) (fdTo c fs cs (n + 1)) = true := by
  unfold provesB
  simp only [Bool.and_eq_true, decide_eq_true_eq]
  have hl := fdTo_last (c := c) (fs := fs) (cs := cs) n
  refine ⟨⟨⟨provesGo_mk (fdTo_sorted _) fun x hx => ?_, ?_⟩, ?_⟩, ?_⟩
  · obtain ⟨j, hj, rfl⟩ := fdTo_mem.1 hx
    rw [fdOf_says _ (by omega)]
    exact ⟨by omega, by omega, fd_right hG j fun i hi => fdTo_mem.2 ⟨i, by omega, rfl⟩⟩
  · intro h
    rw [h] at hl
    cases hl
  · simp only [lastOf, hl, Option.map_some, Option.getD_some]
    exact fdOf_says _ (by omega)
  · simp only [hl, Option.map_some, Option.getD_some]
    simp [soB]

theorem prune_proves {n : Int} {h : Bool} : ∀ (k : Nat) (l : List Fd), provesB c fs cs n h l = true → provesB c fs cs n h (prune c fs cs n h k l) = true
  | 0, _, hp => hp
  | k + 1, l, hp => by
    unfold prune
    split
    · rename_i h1; exact prune_proves k _ h1
    · exact prune_proves k _ hp

/-- What pruning leaves of the findings below k in front of a tail that is kept. -/
theorem prune_spare (hG : Good c fs cs) {n : Int} {h : Bool} : ∀ (k : Nat) (T : List Fd), T ≠ [] → (∀ x, x ∈ T → (k : Int) ≤ x.says) →
    ∃ A, (∀ x, x ∈ A → x ∈ fdTo c fs cs k) ∧ prune c fs cs n h k (fdTo c fs cs k ++ T) = A ++ T ∧ ∀ i, i < A.length → provesB c fs cs n h ((A ++ T).eraseIdx i) = false
  | 0, T, _, _ => ⟨[], by simp, rfl, by simp⟩
  | k + 1, T, hT, hk => by
    have el : fdTo c fs cs (k + 1) = fdTo c fs cs k ++ [fdOf c fs cs k] := by
      rw [fdTo_map, fdTo_map, List.range_succ]; simp
    have ee : (fdTo c fs cs (k + 1) ++ T).eraseIdx k = fdTo c fs cs k ++ T := by
      rw [el, List.append_assoc, List.eraseIdx_append_of_length_le (by rw [fdTo_length]; exact Nat.le_refl _), fdTo_length]
      simp
    have hsub : ∀ x, x ∈ fdTo c fs cs k → x ∈ fdTo c fs cs (k + 1) := fun x hx => by rw [el]; exact List.mem_append_left _ hx
    unfold prune
    rw [ee]
    cases hp : provesB c fs cs n h (fdTo c fs cs k ++ T) with
    | true =>
      simp only [if_true]
      obtain ⟨A, h1, h2, h3⟩ := prune_spare hG k T hT (fun x hx => by have := hk x hx; omega)
      exact ⟨A, fun x hx => hsub x (h1 x hx), h2, h3⟩
    | false =>
      simp only [Bool.false_eq_true, if_false]
      obtain ⟨A, h1, h2, h3⟩ := prune_spare (n := n) (h := h) hG k (fdOf c fs cs k :: T) (by simp) (fun x hx => by
        rcases List.mem_cons.1 hx with rfl | hx
        · rw [fdOf_says _ (by omega)]; omega
        · have := hk x hx; omega)
      refine ⟨A ++ [fdOf c fs cs k], fun x hx => ?_, ?_, fun i hi => ?_⟩
      · rcases List.mem_append.1 hx with hx | hx
        · exact hsub x (h1 x hx)
        · rw [el]; exact List.mem_append_right _ hx
      · rw [el, List.append_assoc, List.append_assoc]
        exact h2
      · rw [List.append_assoc]
        simp only [List.length_append, List.length_singleton] at hi
        rcases Nat.lt_or_ge i A.length with h4 | h4
        · exact h3 i h4
        · have : i = A.length := by omega
          subst this
          rw [List.singleton_append, List.eraseIdx_append_of_length_le (Nat.le_refl _), Nat.sub_self, List.eraseIdx_cons_zero]
          cases hq : provesB c fs cs n h (A ++ T) with
          | false => rfl
          | true => rw [front_proves hG h1 hT (fun x hx => by have := hk x hx; omega) hq] at hp; cases hp

/-- Nothing of what is left can be left out. -/
theorem decide_spare (hG : Good c fs cs) (n : Nat) : ∀ i, i < (prune c fs cs n (soB c fs cs n) n (fdTo c fs cs (n + 1))).length →
    provesB c fs cs n (soB c fs cs n) ((prune c fs cs n (soB c fs cs n) n (fdTo c fs cs (n + 1))).eraseIdx i) = false := by
  have el : fdTo c fs cs (n + 1) = fdTo c fs cs n ++ [fdOf c fs cs n] := by
    rw [fdTo_map, fdTo_map, List.range_succ]; simp
  obtain ⟨A, h1, h2, h3⟩ := prune_spare (n := n) (h := soB c fs cs n) hG n [fdOf c fs cs n] (by simp) (fun x hx => by
    simp only [List.mem_singleton] at hx; subst hx; rw [fdOf_says _ (by omega)]; omega)
  rw [el, h2]
  intro i hi
  rcases Nat.lt_or_ge i A.length with h4 | h4
  · exact h3 i h4
  · have : i = A.length := by simp at hi; omega
    subst this
    rw [List.eraseIdx_append_of_length_le (Nat.le_refl _), Nat.sub_self, List.eraseIdx_cons_zero, List.append_nil]
    cases hp : provesB c fs cs n (soB c fs cs n) A with
    | false => rfl
    | true =>
      exfalso
      unfold provesB at hp
      simp only [Bool.and_eq_true, decide_eq_true_eq] at hp
      obtain ⟨⟨⟨g1, g2⟩, g3⟩, _⟩ := hp
      cases hl : A.getLast? with
      | none => rw [List.getLast?_eq_none_iff] at hl; exact g2 hl
      | some x =>
        have hx := getLast_mem' hl
        obtain ⟨j, hj, rfl⟩ := fdTo_mem.1 (h1 x hx)
        simp only [lastOf, hl, Option.map_some, Option.getD_some] at g3
        rw [fdOf_says _ (by omega)] at g3
        omega
end

/-! ### Valid rules -/
theorem pickN_mem {p : Nat → Bool} {n : Nat} {x : Int} : x ∈ pickN p n ↔ ∃ i : Nat, i < n ∧ p i = true ∧ x = i := by
  simp only [pickN, List.mem_map, List.mem_filter, List.mem_range]
  constructor
  · rintro ⟨i, ⟨h1, h2⟩, rfl⟩; exact ⟨i, h1, h2, rfl⟩
  · rintro ⟨i, h1, h2, rfl⟩; exact ⟨i, ⟨h1, h2⟩, rfl⟩

theorem ascGo_mem {below : Int} : ∀ {l : List Int} {last : Int}, ascGo below last l = true → ∀ m, m ∈ l → last < m ∧ m < below
  | [], _, _, m, hm => by simp at hm
  | n :: l, last, h, m, hm => by
    simp only [ascGo, Bool.and_eq_true, isInB_iff] at h
    rcases List.mem_cons.1 hm with rfl | hm
    · omega
    · have := ascGo_mem h.2 m hm; omega

theorem good_of_valid {c : Rb} {q : Qn} (hv : validB c = true) : Good c (factsOf c q) (clausesOf c q) := by
  simp only [validB, Bool.and_eq_true, List.all_eq_true] at hv
  obtain ⟨⟨⟨_, hc⟩, _⟩, _⟩ := hv
  refine ⟨fun i hi m hm => ?_, fun i hi => ?_, fun i hi => ?_⟩
  · obtain ⟨j, hj, _, rfl⟩ := pickN_mem.1 hi
    have hx : c.cl j ∈ c.cls := by simp [Rb.cl, hj]
    have h1 := hc _ hx
    simp only [clB, Bool.and_eq_true, ascB] at h1
    rcases hm with hm | hm
    · have := ascGo_mem h1.1.2.2 m hm; omega
    · have := ascGo_mem h1.2.2 m hm; omega
  · obtain ⟨j, _, _, rfl⟩ := pickN_mem.1 hi; omega
  · obtain ⟨j, _, _, rfl⟩ := pickN_mem.1 hi; omega

/-- What the law StatuteOne asks. -/
theorem decide_checks {c : Rb} {q : Qn} (h : okB c q = true) : checkB c q (decideA c q) (decideL c q) = true := by
  have hv : validB c = true := by simp only [okB, Bool.and_eq_true] at h; exact h.1
  have ha : 0 ≤ q.says ∧ q.says ≤ 19 := by
    simp only [okB, asksB, Bool.and_eq_true, isInB_iff] at h; exact h.2.1.1.2
  obtain ⟨n, hn⟩ := Int.eq_ofNat_of_zero_le ha.1
  unfold checkB decideA decideL
  rw [h, Bool.true_and]
  refine prune_proves _ _ ?_
  rw [hn, Int.toNat_natCast]
  exact full_proves (good_of_valid hv) n (by omega)
theorem check_one {c : Rb} {q : Qn} {h : Bool} {l : List Fd} (hc : checkB c q h l = true) : h = decideA c q := by
  simp only [checkB, Bool.and_eq_true, okB] at hc
  exact proves_so (good_of_valid hc.1.1) hc.2
theorem check_other {c : Rb} {q : Qn} (l : List Fd) : checkB c q (!decideA c q) l = false := by
  cases h : checkB c q (!decideA c q) l with
  | false => rfl
  | true => have := check_one h; cases hd : decideA c q <;> rw [hd] at this <;> cases this
theorem spare_checks {c : Rb} {q : Qn} (h : okB c q = true) (i : Nat) (hi : i < (decideL c q).length) : checkB c q (decideA c q) ((decideL c q).eraseIdx i) = false := by
  have hv : validB c = true := by simp only [okB, Bool.and_eq_true] at h; exact h.1
  have ha : 0 ≤ q.says ∧ q.says ≤ 19 := by
    simp only [okB, asksB, Bool.and_eq_true, isInB_iff] at h; exact h.2.1.1.2
  obtain ⟨n, hn⟩ := Int.eq_ofNat_of_zero_le ha.1
  unfold decideL at hi
  unfold checkB decideA decideL
  rw [h, Bool.true_and]
  rw [hn, Int.toNat_natCast] at hi ⊢
  exact decide_spare (good_of_valid hv) n i hi

end Go.Proofs.Ytfidioedjmjddaa
