/-
  The plain law of chapter 8, further: rules of which only that is left on which a proof leans.
-/
import Derived.Test.YtfidioedjmjddaaStP3
namespace Go.Proofs.Ytfidioedjmjddaa

/-- The first place of n. -/
def idxP (l : List Int) (n : Int) : Int := match l.findIdx? (· == n) with
  | some i => i
  | none => -1

theorem idxP_mem {l : List Int} {n : Int} (h : n ∈ l) : ∃ i : Nat, idxP l n = i ∧ ∃ hi : i < l.length, l[i] = n := by
  unfold idxP
  cases hf : l.findIdx? (· == n) with
  | none =>
    rw [List.findIdx?_eq_none_iff] at hf
    have := hf n h
    simp at this
  | some i =>
    rw [List.findIdx?_eq_some_iff_getElem] at hf
    obtain ⟨hi, h1, _⟩ := hf
    exact ⟨i, rfl, hi, by simpa using h1⟩
theorem idxP_not {l : List Int} {n : Int} (h : n ∉ l) : idxP l n = -1 := by
  unfold idxP
  cases hf : l.findIdx? (· == n) with
  | none => rfl
  | some i =>
    rw [List.findIdx?_eq_some_iff_getElem] at hf
    obtain ⟨hi, h1, _⟩ := hf
    exact absurd (by have : l[i] = n := by simpa using h1
                     exact this ▸ List.getElem_mem hi) h

/-- The rules with the facts and clauses of two lists alone. -/
def lessOf (c : Rb) (fs cs : List Int) : Rb :=
  ⟨cs.map c.cl, (c.rps.filter fun r => decide (r.cl ∈ cs)).map fun r => ⟨idxP cs r.cl, r.pub, r.frm⟩, fs.map c.fa⟩
def moveF (fs cs : List Int) (x : Fd) : Fd := ⟨x.says, x.holds, idxP fs x.fact, idxP cs x.cl⟩

/-- Ascending lists of numbers of facts and of clauses. -/
structure Subs (c : Rb) (fs cs : List Int) : Prop where
  f : ∀ i, i ∈ fs → 0 ≤ i ∧ i < c.fas.length
  c : ∀ i, i ∈ cs → 0 ≤ i ∧ i < c.cls.length
  fa : fs.Pairwise (· < ·)
  ca : cs.Pairwise (· < ·)

theorem asc_inj {l : List Int} (h : l.Pairwise (· < ·)) {i j : Nat} (hi : i < l.length) (hj : j < l.length) (e : l[i] = l[j]) : i = j := by
  rcases Nat.lt_trichotomy i j with hlt | rfl | hlt
  · have := List.pairwise_iff_getElem.1 h i j hi hj hlt; omega
  · rfl
  · have := List.pairwise_iff_getElem.1 h j i hj hi hlt; omega
theorem asc_len {l : List Int} (h : l.Pairwise (· < ·)) {n : Nat} (hb : ∀ i, i ∈ l → 0 ≤ i ∧ i < n) : l.length ≤ n := by
  have key : ∀ k, (hk : k < l.length) → (k : Int) ≤ l[k] := by
    intro k
    induction k with
    | zero => intro hk; exact (hb _ (List.getElem_mem hk)).1
    | succ k ih =>
      intro hk
      have h1 := ih (by omega)
      have h2 := List.pairwise_iff_getElem.1 h k (k + 1) (by omega) hk (by omega)
      omega
  rcases Nat.eq_zero_or_pos l.length with h0 | h0
  · omega
  · have h1 := key (l.length - 1) (by omega)
    have h2 := (hb _ (List.getElem_mem (by omega : l.length - 1 < l.length))).2
    omega

section
variable {c : Rb} {q : Qn} {fs cs : List Int}

theorem less_fa (k : Nat) (hk : k < fs.length) : (lessOf c fs cs).fas.getD k default = c.fa fs[k] := by
  simp [lessOf, hk]
theorem less_cl (k : Nat) (hk : k < cs.length) : (lessOf c fs cs).cls.getD k default = c.cl cs[k] := by
  simp [lessOf, hk]
theorem less_rep (hs : Subs c fs cs) (k : Nat) (hk : k < cs.length) : (lessOf c fs cs).rps.any (repB k q) = c.rps.any (repB cs[k] q) := by
  rw [Bool.eq_iff_iff, List.any_eq_true, List.any_eq_true]
  constructor
  · rintro ⟨r, hr, h⟩
    simp only [lessOf, List.mem_map, List.mem_filter, decide_eq_true_eq] at hr
    obtain ⟨r', ⟨h1, h2⟩, rfl⟩ := hr
    refine ⟨r', h1, ?_⟩
    simp only [repB, Bool.and_eq_true, decide_eq_true_eq] at h ⊢
    obtain ⟨⟨h3, h4⟩, h5⟩ := h
    obtain ⟨i, hi, hil, e⟩ := idxP_mem h2
    have : i = k := by omega
    subst this
    exact ⟨⟨e.symm, h4⟩, h5⟩
  · rintro ⟨r, hr, h⟩
    simp only [repB, Bool.and_eq_true, decide_eq_true_eq] at h
    obtain ⟨⟨h3, h4⟩, h5⟩ := h
    have hm : r.cl ∈ cs := h3 ▸ List.getElem_mem hk
    refine ⟨⟨idxP cs r.cl, r.pub, r.frm⟩, ?_, ?_⟩
    · simp only [lessOf, List.mem_map, List.mem_filter, decide_eq_true_eq]
      exact ⟨r, ⟨hr, hm⟩, rfl⟩
    · simp only [repB, Bool.and_eq_true, decide_eq_true_eq]
      obtain ⟨i, hi, hil, e⟩ := idxP_mem hm
      have : i = k := asc_inj hs.ca hil hk (e.trans h3)
      exact ⟨⟨by omega, h4⟩, h5⟩
theorem rulesB_cl (i : Nat) : rulesB c q i = (decide ((c.cl i).pub ≤ q.known) && hasB (c.cl i).f (c.cl i).t q.at_ && !c.rps.any (repB i q)) := by
  unfold rulesB Rb.cl
  simp
theorem less_rules (hs : Subs c fs cs) (k : Nat) (hk : k < cs.length) : rulesB (lessOf c fs cs) q k = rulesB c q (cs[k]).toNat := by
  have h0 := (hs.c _ (List.getElem_mem hk)).1
  have e : ((cs[k]).toNat : Int) = cs[k] := by omega
  rw [rulesB_cl (c := c), e]
  unfold rulesB
  simp only [less_cl (c := c) (fs := fs) k hk, less_rep hs k hk]
/-- Which facts and clauses of the rules that are left apply. -/
theorem less_facts (k : Nat) (hk : k < fs.length) (h0 : 0 ≤ fs[k] ∧ fs[k] < c.fas.length) : ((k : Int) ∈ factsOf (lessOf c fs cs) q) ↔ fs[k] ∈ factsOf c q := by
  have hl : (lessOf c fs cs).fas.length = fs.length := by simp [lessOf]
  unfold factsOf
  rw [pickN_mem, pickN_mem, hl]
  constructor
  · rintro ⟨i, hi, h1, h2⟩
    have : i = k := by omega
    subst this
    rw [less_fa i hk] at h1
    exact ⟨(fs[i]).toNat, by omega, h1, by omega⟩
  · rintro ⟨i, hi, h1, h2⟩
    refine ⟨k, hk, ?_, rfl⟩
    rw [less_fa k hk]
    have : (fs[k]).toNat = i := by omega
    unfold Rb.fa
    rw [this]
    exact h1
theorem less_clauses (hs : Subs c fs cs) (k : Nat) (hk : k < cs.length) : ((k : Int) ∈ clausesOf (lessOf c fs cs) q) ↔ cs[k] ∈ clausesOf c q := by
  have hl : (lessOf c fs cs).cls.length = cs.length := by simp [lessOf]
  have h0 := hs.c _ (List.getElem_mem hk)
  unfold clausesOf
  rw [pickN_mem, pickN_mem, hl]
  constructor
  · rintro ⟨i, hi, h1, h2⟩
    have : i = k := by omega
    subst this
    rw [less_rules hs i hk] at h1
    exact ⟨(cs[i]).toNat, by omega, h1, by omega⟩
  · rintro ⟨i, hi, h1, h2⟩
    refine ⟨k, hk, ?_, rfl⟩
    rw [less_rules hs k hk]
    have : (cs[k]).toNat = i := by omega
    rw [this]
    exact h1
theorem less_facts_mem (hs : Subs c fs cs) {i : Int} (h : i ∈ factsOf (lessOf c fs cs) q) : ∃ k : Nat, ∃ hk : k < fs.length, i = k ∧ fs[k] ∈ factsOf c q ∧ (lessOf c fs cs).fa i = c.fa fs[k] := by
  have hl : (lessOf c fs cs).fas.length = fs.length := by simp [lessOf]
  have h' := h
  unfold factsOf at h
  rw [pickN_mem, hl] at h
  obtain ⟨k, hk, _, rfl⟩ := h
  exact ⟨k, hk, rfl, (less_facts k hk (hs.f _ (List.getElem_mem hk))).1 h', by simp only [Rb.fa, Int.toNat_natCast]; exact less_fa k hk⟩
theorem less_clauses_mem (hs : Subs c fs cs) {i : Int} (h : i ∈ clausesOf (lessOf c fs cs) q) : ∃ k : Nat, ∃ hk : k < cs.length, i = k ∧ cs[k] ∈ clausesOf c q ∧ (lessOf c fs cs).cl i = c.cl cs[k] := by
  have hl : (lessOf c fs cs).cls.length = cs.length := by simp [lessOf]
  have h' := h
  unfold clausesOf at h
  rw [pickN_mem, hl] at h
  obtain ⟨k, hk, _, rfl⟩ := h
  exact ⟨k, hk, rfl, (less_clauses hs k hk).1 h', by simp only [Rb.cl, Int.toNat_natCast]; exact less_cl k hk⟩

theorem finds_move (l : List Fd) (n : Int) (h : Bool) : findsB (l.map (moveF fs cs)) n h = findsB l n h := by
  unfold findsB
  rw [List.any_map]
  rfl
theorem cl_mem_of {i : Int} (h : i ∈ clausesOf c q) : 0 ≤ i ∧ i < c.cls.length := by
  obtain ⟨k, hk, _, rfl⟩ := pickN_mem.1 h; omega
theorem fa_mem_of {i : Int} (h : i ∈ factsOf c q) : 0 ≤ i ∧ i < c.fas.length := by
  obtain ⟨k, hk, _, rfl⟩ := pickN_mem.1 h; omega

/-- A finding that is right stays right. -/
theorem right_move (hs : Subs c fs cs) {x : Fd} {l : List Fd} (hf : 0 ≤ x.fact → x.fact ∈ fs) (hc : 0 ≤ x.cl → x.cl ∈ cs) (h : rightB c (factsOf c q) (clausesOf c q) x l = true) :
    rightB (lessOf c fs cs) (factsOf (lessOf c fs cs) q) (clausesOf (lessOf c fs cs) q) (moveF fs cs x) (l.map (moveF fs cs)) = true := by
  have hneg : ∀ {m : List Int}, (∀ i, i ∈ m → 0 ≤ i) → idxP m (-1) = -1 := fun hm => idxP_not (fun hh => by have := hm _ hh; omega)
  have nf : idxP fs (-1) = -1 := hneg fun i hi => (hs.f i hi).1
  have nc : idxP cs (-1) = -1 := hneg fun i hi => (hs.c i hi).1
  unfold rightB at h ⊢
  by_cases h1 : (x.holds && decide (x.cl = -1)) = true
  · rw [if_pos h1] at h
    have h1' := h1
    simp only [Bool.and_eq_true, decide_eq_true_eq] at h1
    have : ((moveF fs cs x).holds && decide ((moveF fs cs x).cl = -1)) = true := by
      simp only [moveF, h1.1, h1.2, nc, Bool.true_and, decide_true]
    rw [if_pos this]
    simp only [Bool.and_eq_true, List.contains_iff_mem, decide_eq_true_eq] at h ⊢
    obtain ⟨k1, k2⟩ := h
    have hm := hf (fa_mem_of k1).1
    obtain ⟨i, hi, hil, e⟩ := idxP_mem hm
    have hfi : (moveF fs cs x).fact = (i : Int) := hi
    rw [hfi]
    refine ⟨(less_facts i hil (by rw [e]; exact fa_mem_of k1)).2 (by rw [e]; exact k1), ?_⟩
    have : (lessOf c fs cs).fa (i : Int) = c.fa x.fact := by
      simp only [Rb.fa, Int.toNat_natCast]
      rw [less_fa i hil, e]
      rfl
    rw [this]
    exact k2
  · rw [if_neg h1] at h
    by_cases h2 : x.holds = true
    · rw [if_pos h2] at h
      simp only [Bool.and_eq_true, decide_eq_true_eq, List.contains_iff_mem, List.all_eq_true] at h
      obtain ⟨⟨⟨⟨k1, k2⟩, k3⟩, k4⟩, k5⟩ := h
      have hm := hc (cl_mem_of k2).1
      obtain ⟨i, hi, hil, e⟩ := idxP_mem hm
      have hci : (moveF fs cs x).cl = (i : Int) := hi
      have hh : (moveF fs cs x).holds = true := h2
      have : ¬ ((moveF fs cs x).holds && decide ((moveF fs cs x).cl = -1)) = true := by
        rw [hci]
        simp only [Bool.and_eq_true, decide_eq_true_eq, not_and]
        intro _; omega
      rw [if_neg this, if_pos hh]
      have hcl : (lessOf c fs cs).cl (i : Int) = c.cl x.cl := by
        simp only [Rb.cl, Int.toNat_natCast]
        rw [less_cl i hil, e]
        rfl
      simp only [Bool.and_eq_true, decide_eq_true_eq, List.contains_iff_mem, List.all_eq_true, hci, hcl, finds_move]
      refine ⟨⟨⟨⟨?_, (less_clauses hs i hil).2 (by rw [e]; exact k2)⟩, k3⟩, k4⟩, k5⟩
      simp only [moveF, k1, nf]
    · rw [if_neg h2] at h
      simp only [Bool.and_eq_true, decide_eq_true_eq, Bool.not_eq_true', List.any_eq_false] at h
      obtain ⟨⟨⟨k1, k2⟩, k3⟩, k4⟩ := h
      have hh : ¬ (moveF fs cs x).holds = true := h2
      have : ¬ ((moveF fs cs x).holds && decide ((moveF fs cs x).cl = -1)) = true := by
        simp only [Bool.and_eq_true, not_and]
        intro hx; exact absurd hx hh
      rw [if_neg this, if_neg hh]
      simp only [Bool.and_eq_true, decide_eq_true_eq, Bool.not_eq_true', List.any_eq_false]
      refine ⟨⟨⟨by simp only [moveF, k1, nf], by simp only [moveF, k2, nc]⟩, fun i hi => ?_⟩, fun i hi => ?_⟩
      · obtain ⟨k, hk, _, m1, m2⟩ := less_facts_mem hs hi
        rw [m2]
        exact k3 _ m1
      · obtain ⟨k, hk, _, m1, m2⟩ := less_clauses_mem hs hi
        have := k4 _ m1
        unfold barredB at this ⊢
        rw [m2]
        simp only [finds_move]
        exact this
end

/-- The rules that are left are valid. -/
theorem less_valid {c : Rb} {fs cs : List Int} (hs : Subs c fs cs) (hv : validB c = true) : validB (lessOf c fs cs) = true := by
  simp only [validB, Bool.and_eq_true, decide_eq_true_eq, List.all_eq_true] at hv ⊢
  obtain ⟨⟨⟨⟨⟨h1, h2⟩, h3⟩, h4⟩, h5⟩, h6⟩ := hv
  have l1 := asc_len hs.ca hs.c
  have l2 := asc_len hs.fa hs.f
  refine ⟨⟨⟨⟨⟨by simp [lessOf]; omega, ?_⟩, by simp [lessOf]; omega⟩, fun x hx => ?_⟩, fun x hx => ?_⟩, fun x hx => ?_⟩
  · simp only [lessOf, List.length_map]
    exact Nat.le_trans (List.length_filter_le _ _) h2
  · simp only [lessOf, List.mem_map] at hx
    obtain ⟨i, hi, rfl⟩ := hx
    have := hs.c i hi
    exact h4 _ (by have : i.toNat < c.cls.length := by omega
                   simp [Rb.cl, this])
  · simp only [lessOf, List.mem_map, List.mem_filter, decide_eq_true_eq] at hx
    obtain ⟨r, ⟨hr, hm⟩, rfl⟩ := hx
    have k := h5 r hr
    obtain ⟨i, hi, hil, _⟩ := idxP_mem hm
    have hl : (lessOf c fs cs).cls.length = cs.length := by simp [lessOf]
    simp only [rpB, isInB, Bool.and_eq_true, decide_eq_true_eq] at k ⊢
    obtain ⟨⟨_, k3⟩, k4⟩ := k
    rw [hi, hl]
    exact ⟨⟨⟨by omega, by omega⟩, k3⟩, k4⟩
  · simp only [lessOf, List.mem_map] at hx
    obtain ⟨i, hi, rfl⟩ := hx
    have := hs.f i hi
    exact h6 _ (by have : i.toNat < c.fas.length := by omega
                   simp [Rb.fa, this])

/-- WHAT StatuteLeans ASKS: a proof, moved, is a proof from what is left. -/
theorem leans_check {c : Rb} {q : Qn} {fs cs : List Int} {a : Bool} {l : List Fd} (hs : Subs c fs cs) (hf : ∀ x, x ∈ l → 0 ≤ x.fact → x.fact ∈ fs) (hc : ∀ x, x ∈ l → 0 ≤ x.cl → x.cl ∈ cs) (h : checkB c q a l = true) :
    checkB (lessOf c fs cs) q a (l.map (moveF fs cs)) = true := by
  simp only [checkB, okB, Bool.and_eq_true] at h ⊢
  obtain ⟨⟨h1, h2⟩, h3⟩ := h
  refine ⟨⟨less_valid hs h1, h2⟩, ?_⟩
  simp only [provesB, Bool.and_eq_true, decide_eq_true_eq] at h3 ⊢
  obtain ⟨⟨⟨g1, g2⟩, g3⟩, g4⟩ := h3
  have hlast : (l.map (moveF fs cs)).getLast? = l.getLast?.map (moveF fs cs) := by rw [List.getLast?_map]
  refine ⟨⟨⟨?_, by simpa using g2⟩, ?_⟩, ?_⟩
  · refine provesGo_mk ?_ ?_
    · rw [List.pairwise_map]
      exact provesGo_sorted g1
    · intro x hx
      obtain ⟨y, hy, rfl⟩ := List.mem_map.1 hx
      obtain ⟨k1, k2, k3⟩ := provesGo_all g1 y hy
      exact ⟨k1, k2, right_move hs (hf y hy) (hc y hy) k3⟩
  · unfold lastOf at g3 ⊢
    rw [hlast, Option.map_map]
    exact g3
  · rw [hlast, Option.map_map]
    exact g4

end Go.Proofs.Ytfidioedjmjddaa
