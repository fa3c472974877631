/-
  The plain law of chapter 8, further: what is out of question changes nothing; exceptions that are not so change nothing.
-/
import Derived.Test.YtfidioedjmjddaaStP2
namespace Go.Proofs.Ytfidioedjmjddaa

theorem pickN_ext {p p' : Nat → Bool} (n m : Nat) (h1 : ∀ i, i < n → p' i = p i) (h2 : ∀ i, n ≤ i → i < n + m → p' i = false) : pickN p' (n + m) = pickN p n := by
  unfold pickN
  congr 1
  rw [List.range_add, List.filter_append]
  have e1 : (List.range n).filter p' = (List.range n).filter p := List.filter_congr fun i hi => h1 i (by simpa using hi)
  have e2 : ((List.range m).map (n + ·)).filter p' = [] := by
    rw [List.filter_eq_nil_iff]
    intro i hi
    simp only [List.mem_map, List.mem_range] at hi
    obtain ⟨j, hj, rfl⟩ := hi
    rw [h2 (n + j) (by omega) (by omega)]
    simp
  rw [e1, e2, List.append_nil]
theorem pickN_congr {p p' : Nat → Bool} (n : Nat) (h1 : ∀ i, i < n → p' i = p i) : pickN p' n = pickN p n := by
  have := pickN_ext (p := p) (p' := p') n 0 h1 (by omega)
  simpa using this

theorem getD_left {α : Type} [Inhabited α] {l E : List α} {i : Nat} (h : i < l.length) : (l ++ E).getD i default = l.getD i default := by
  simp [List.getD_eq_getElem?_getD, List.getElem?_append_left h]
theorem getD_right {α : Type} [Inhabited α] {l E : List α} {i : Nat} (h : l.length ≤ i) (h2 : i < l.length + E.length) : (l ++ E).getD i default ∈ E := by
  rw [List.getD_eq_getElem?_getD, List.getElem?_append_right h, List.getElem?_eq_getElem (by omega)]
  simp

/-- Rules with more behind them, which is out of question. -/
structure PastExt (c c' : Rb) (q : Qn) : Prop where
  cls : ∃ E, c'.cls = c.cls ++ E ∧ ∀ x, x ∈ E → q.known < x.pub ∨ hasB x.f x.t q.at_ = false
  rps : ∃ E, c'.rps = c.rps ++ E ∧ ∀ r, r ∈ E → (q.known < r.pub ∨ q.at_ < r.frm)
  fas : ∃ E, c'.fas = c.fas ++ E ∧ ∀ x, x ∈ E → statesB x q = false

theorem PastExt.facts {c c' : Rb} {q : Qn} (h : PastExt c c' q) : factsOf c' q = factsOf c q := by
  obtain ⟨E, h1, h2⟩ := h.fas
  unfold factsOf
  rw [h1, List.length_append]
  refine pickN_ext _ _ (fun i hi => ?_) (fun i hi hi2 => ?_)
  · rw [getD_left hi]
  · exact h2 _ (getD_right hi hi2)
theorem PastExt.reps {c c' : Rb} {q : Qn} (h : PastExt c c' q) (i : Int) : c'.rps.any (repB i q) = c.rps.any (repB i q) := by
  obtain ⟨E, h1, h2⟩ := h.rps
  rw [h1, List.any_append]
  have : E.any (repB i q) = false := by
    rw [List.any_eq_false]
    intro r hr
    have := h2 r hr
    simp only [repB, Bool.and_eq_true, decide_eq_true_eq]
    omega
  rw [this, Bool.or_false]
theorem PastExt.clauses {c c' : Rb} {q : Qn} (h : PastExt c c' q) : clausesOf c' q = clausesOf c q := by
  obtain ⟨E, h1, h2⟩ := h.cls
  unfold clausesOf
  have key : ∀ i, rulesB c' q i = (let x := c'.cls.getD i default; decide (x.pub ≤ q.known) && hasB x.f x.t q.at_ && !c.rps.any (repB i q)) := fun i => by
    unfold rulesB
    rw [h.reps]
  rw [h1, List.length_append]
  refine pickN_ext _ _ (fun i hi => ?_) (fun i hi hi2 => ?_)
  · rw [key, h1, getD_left hi]
    rfl
  · rw [key, h1]
    have hx := h2 _ (getD_right hi hi2)
    generalize (c.cls ++ E).getD i default = x at hx
    rcases hx with hh | hh
    · have : ¬ x.pub ≤ q.known := by omega
      simp [this]
    · simp [hh]

section
variable {c c' : Rb} {fs cs : List Int}
theorem barredB_congr {l : List Fd} {i : Int} (h : c'.cl i = c.cl i) : barredB c' l i = barredB c l i := by
  unfold barredB; rw [h]
theorem rightB_congr (hf : ∀ i, i ∈ fs → (c'.fa i).says = (c.fa i).says) (hc : ∀ i, i ∈ cs → c'.cl i = c.cl i) (x : Fd) (l : List Fd) : rightB c' fs cs x l = rightB c fs cs x l := by
  unfold rightB
  split
  · by_cases hm : x.fact ∈ fs
    · rw [hf _ hm]
    · simp [hm]
  · split
    · by_cases hm : x.cl ∈ cs
      · rw [hc _ hm]
      · simp [hm]
    · rw [any_congr' (l := fs) (fun i hi => by rw [hf i hi]), any_congr' (l := cs) (fun i hi => by rw [hc i hi, barredB_congr (hc i hi)])]
theorem provesGo_congr (hf : ∀ i, i ∈ fs → (c'.fa i).says = (c.fa i).says) (hc : ∀ i, i ∈ cs → c'.cl i = c.cl i) (l : List Fd) : ∀ (r : List Fd) (last : Int), provesGo c' fs cs l last r = provesGo c fs cs l last r
  | [], _ => rfl
  | x :: r, last => by
    simp only [provesGo]
    rw [rightB_congr hf hc, provesGo_congr hf hc l r]
theorem provesB_congr (hf : ∀ i, i ∈ fs → (c'.fa i).says = (c.fa i).says) (hc : ∀ i, i ∈ cs → c'.cl i = c.cl i) (n : Int) (h : Bool) (l : List Fd) : provesB c' fs cs n h l = provesB c fs cs n h l := by
  unfold provesB
  rw [provesGo_congr hf hc]

/-- What is so is the one thing that the rules say of itself. -/
theorem soB_unique (hG : Good c fs cs) {so : Int → Bool} (h : ∀ n, 0 ≤ n → so n = (fs.any (fun i => decide ((c.fa i).says = n)) || cs.any (givesB c so n))) : ∀ n, 0 ≤ n → soB c fs cs n = so n := by
  have key : ∀ (k : Nat) (j : Nat), j < k → soB c fs cs j = so j := by
    intro k
    induction k with
    | zero => intro j hj; omega
    | succ k ih =>
      intro j hj
      rw [soB_eq hG j (by omega), h j (by omega)]
      rw [any_congr' (l := cs) (fun i hi => givesB_congr hG hi (so' := so) fun m h1 h2 => ?_)]
      obtain ⟨i', rfl⟩ := Int.eq_ofNat_of_zero_le h1
      exact ih i' (by omega)
  intro n hn
  obtain ⟨k, rfl⟩ := Int.eq_ofNat_of_zero_le hn
  exact key (k + 1) k (by omega)
end

theorem PastExt.fa {c c' : Rb} {q : Qn} (h : PastExt c c' q) : ∀ i, i ∈ factsOf c q → (c'.fa i).says = (c.fa i).says := fun i hi => by
  obtain ⟨j, hj, _, rfl⟩ := pickN_mem.1 hi
  obtain ⟨E, h1, _⟩ := h.fas
  simp only [Rb.fa, Int.toNat_natCast, h1, getD_left hj]
theorem PastExt.cl {c c' : Rb} {q : Qn} (h : PastExt c c' q) : ∀ i, i ∈ clausesOf c q → c'.cl i = c.cl i := fun i hi => by
  obtain ⟨j, hj, _, rfl⟩ := pickN_mem.1 hi
  obtain ⟨E, h1, _⟩ := h.cls
  simp only [Rb.cl, Int.toNat_natCast, h1, getD_left hj]
theorem PastExt.check {c c' : Rb} {q : Qn} (h : PastExt c c' q) (h1 : okB c q = true) (h2 : okB c' q = true) (a : Bool) (l : List Fd) : checkB c' q a l = checkB c q a l := by
  unfold checkB
  rw [h1, h2, h.facts, h.clauses, provesB_congr h.fa h.cl]
theorem PastExt.decided {c c' : Rb} {q : Qn} (h : PastExt c c' q) (h1 : okB c q = true) (h2 : okB c' q = true) : decideA c' q = decideA c q := by
  have h3 := decide_checks h1
  rw [← h.check h1 h2] at h3
  exact (check_one h3).symm

/-- Further needs that are so, further bars that are not so: of one clause. -/
structure ExcExt (so : Int → Bool) (c c' : Rb) : Prop where
  len : c'.cls.length = c.cls.length
  rps : c'.rps = c.rps
  fas : c'.fas = c.fas
  pub : ∀ i, (c'.cls.getD i default).pub = (c.cls.getD i default).pub
  f : ∀ i, (c'.cls.getD i default).f = (c.cls.getD i default).f
  t : ∀ i, (c'.cls.getD i default).t = (c.cls.getD i default).t
  gives : ∀ i, (c'.cls.getD i default).gives = (c.cls.getD i default).gives
  needs : ∀ i, (c'.cls.getD i default).needs.all so = (c.cls.getD i default).needs.all so
  bars : ∀ i, (c'.cls.getD i default).bars.any so = (c.cls.getD i default).bars.any so

theorem ExcExt.facts {so : Int → Bool} {c c' : Rb} (h : ExcExt so c c') (q : Qn) : factsOf c' q = factsOf c q := by
  unfold factsOf; rw [h.fas]
theorem ExcExt.clauses {so : Int → Bool} {c c' : Rb} (h : ExcExt so c c') (q : Qn) : clausesOf c' q = clausesOf c q := by
  unfold clausesOf
  rw [h.len]
  refine pickN_congr _ fun i _ => ?_
  unfold rulesB
  simp only [h.pub, h.f, h.t, h.rps]
theorem ExcExt.decided {c c' : Rb} {q : Qn} (h : ExcExt (soB c (factsOf c q) (clausesOf c q)) c c') (h1 : okB c q = true) (h2 : okB c' q = true) : decideA c' q = decideA c q := by
  have v1 : validB c = true := by simp only [okB, Bool.and_eq_true] at h1; exact h1.1
  have v2 : validB c' = true := by simp only [okB, Bool.and_eq_true] at h2; exact h2.1
  have ha : 0 ≤ q.says := by
    simp only [okB, asksB, Bool.and_eq_true, isInB_iff] at h1; exact h1.2.1.1.2.1
  unfold decideA
  rw [h.facts, h.clauses]
  have g2 := good_of_valid (q := q) v2
  rw [h.facts, h.clauses] at g2
  refine soB_unique g2 (fun n hn => ?_) _ ha
  rw [soB_eq (good_of_valid v1) n hn]
  congr 1
  · refine any_congr' fun i _ => ?_
    simp only [Rb.fa, h.fas]
    rfl
  · refine any_congr' fun i _ => ?_
    unfold givesB
    simp only [Rb.cl, h.gives, h.needs, h.bars]
    rfl

end Go.Proofs.Ytfidioedjmjddaa
