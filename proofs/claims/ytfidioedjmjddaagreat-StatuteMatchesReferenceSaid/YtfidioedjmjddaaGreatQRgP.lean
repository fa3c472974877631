/-
  The plain law of StatuteMatchesReference: what the reference says is so is so; the reference's Uses returns the same lists.
-/
import Derived.Test.YtfidioedjmjddaaGreatQRg6
import Derived.Test.YtfidioedjmjddaaGreatQRg9
import Derived.Test.YtfidioedjmjddaaGreatQL8n
namespace Go.Proofs.YtfidioedjmjddaaGreat

theorem so_fd (c : Rb) (q : Qn) : ∀ n j, soR c q n j = ((fdTo c (factsOf c q) (clausesOf c q) n).getD j default).holds := by
  intro n
  induction n with
  | zero => intro j; simp only [soR, fdTo, List.getD_nil]; rfl
  | succ n ih =>
    have key : soN c q (soR c q n) n = (findW c (factsOf c q) (clausesOf c q) (fun i => ((fdTo c (factsOf c q) (clausesOf c q) n).getD i.toNat default).holds) n).holds := by
      rw [findW_holds, facts_any]
      unfold soN clausesOf
      rw [pickN_any]
      have e1 : c.fas.any (factP q n) = c.fas.any (factI q (n : Int)) := rfl
      have e2 : clauseP c q (soR c q n) n = fun i => rulesB c q i && givesB c (fun i => ((fdTo c (factsOf c q) (clausesOf c q) n).getD i.toNat default).holds) (n : Int) (i : Int) := by
        funext i
        have e3 : (fun x : Int => soR c q n x.toNat) = fun i => ((fdTo c (factsOf c q) (clausesOf c q) n).getD i.toNat default).holds := by funext x; exact ih _
        unfold clauseP givesB Rb.cl
        rw [e3, Int.toNat_natCast]
        generalize decide ((c.cls.getD i default).gives = (n : Int)) = b1
        generalize rulesB c q i = b2
        generalize (c.cls.getD i default).needs.all _ = b3
        generalize (c.cls.getD i default).bars.any _ = b4
        cases b1 <;> cases b2 <;> cases b3 <;> cases b4 <;> rfl
      rw [e1, e2]
      rfl
    intro j
    rw [soR, fdTo, List.getD_eq_getElem?_getD]
    rcases Nat.lt_trichotomy j n with h | h | h
    · rw [upd_ne _ _ (by omega), ih j, List.getElem?_append_left (by rw [fdTo_length]; exact h), List.getD_eq_getElem?_getD]
    · subst h
      rw [List.getElem?_append_right (by rw [fdTo_length]; exact Nat.le_refl _), fdTo_length, Nat.sub_self]
      unfold upd
      rw [if_pos rfl, key]
      rfl
    · rw [upd_ne _ _ (by omega), ih j, List.getElem?_eq_none (by rw [List.length_append, fdTo_length]; simp; omega), List.getD_eq_getElem?_getD, List.getElem?_eq_none (by rw [fdTo_length]; omega)]

theorem soR_stays (c : Rb) (q : Qn) (m : Nat) : ∀ k, soR c q (m + 1 + k) m = soR c q (m + 1) m
  | 0 => rfl
  | k + 1 => by rw [show m + 1 + (k + 1) = m + 1 + k + 1 from rfl, soR, upd_ne _ _ (by omega)]; exact soR_stays c q m k
theorem answer_eq {c : Rb} {q : Qn} (h : okB c q = true) : soR c q 20 q.says.toNat = decideA c q := by
  have hs : 0 ≤ q.says ∧ q.says ≤ 19 := by
    simp only [okB, asksB, Bool.and_eq_true, isInB_iff] at h
    exact h.2.1.1.2
  have e := soR_stays c q q.says.toNat (20 - (q.says.toNat + 1))
  rw [show q.says.toNat + 1 + (20 - (q.says.toNat + 1)) = 20 by omega] at e
  rw [e, so_fd]
  rfl

theorem sorted_ext : ∀ {a b : List Int}, a.Pairwise (· < ·) → b.Pairwise (· < ·) → (∀ m, m ∈ a ↔ m ∈ b) → a = b
  | [], [], _, _, _ => rfl
  | [], y :: b, _, _, h => absurd ((h y).2 (by simp)) (by simp)
  | x :: a, [], _, _, h => absurd ((h x).1 (by simp)) (by simp)
  | x :: a, y :: b, ha, hb, h => by
    rw [List.pairwise_cons] at ha hb
    have hxy : x = y := by
      rcases List.mem_cons.1 ((h x).1 (by simp)) with h1 | h1
      · exact h1
      · rcases List.mem_cons.1 ((h y).2 (by simp)) with h2 | h2
        · exact h2.symm
        · have := ha.1 _ h2; have := hb.1 _ h1; omega
    subst hxy
    congr 1
    refine sorted_ext ha.2 hb.2 fun m => ?_
    constructor
    · intro hm
      have := ha.1 m hm
      rcases List.mem_cons.1 ((h m).1 (by simp [hm])) with h1 | h1
      · omega
      · exact h1
    · intro hm
      have := hb.1 m hm
      rcases List.mem_cons.1 ((h m).2 (by simp [hm])) with h1 | h1
      · omega
      · exact h1

theorem uses_right {c : Rb} {q : Qn} {l : List Fd} (h : usesB c q l = true) : ∀ x, x ∈ l → rightB c (factsOf c q) (clausesOf c q) x l = true := by
  rcases Bool.or_eq_true_iff.1 h with h | h <;> exact check_right h
theorem useF_eq {c : Rb} {q : Qn} {l : List Fd} (h : usesB c q l = true) (hs : (useF l).Pairwise (· < ·)) : useF l = pickN (fun i => l.any (useP i)) c.fas.length := by
  refine sorted_ext hs (pickN_sorted _ _) fun m => ?_
  rw [useF_mem, pickN_mem]
  constructor
  · rintro ⟨x, hx, h0, rfl⟩
    rcases (right_parts (uses_right h x hx)).1 with h1 | h1
    · omega
    · have := factsOf_sub h1
      exact ⟨x.fact.toNat, by omega, List.any_eq_true.2 ⟨x, hx, by simp [useP]; omega⟩, by omega⟩
  · rintro ⟨i, hi, hp, rfl⟩
    obtain ⟨x, hx, h1⟩ := List.any_eq_true.1 hp
    simp only [useP, decide_eq_true_eq] at h1
    exact ⟨x, hx, by omega, h1⟩
theorem useC_eq {c : Rb} {q : Qn} {l : List Fd} (h : usesB c q l = true) (hs : (useC c (clausesOf c q) l).Pairwise (· < ·)) : useC c (clausesOf c q) l = pickN (fun i => l.any (useQ c q i)) c.cls.length := by
  refine sorted_ext hs (pickN_sorted _ _) fun m => ?_
  have hr := uses_right h
  rw [useC_mem, pickN_mem]
  constructor
  · rintro ⟨x, hx, hf, ⟨h1, rfl⟩ | ⟨h1, h2, h3⟩⟩
    · rcases (right_parts (hr x hx)).2 with h2 | ⟨h2, _⟩
      · omega
      · have := clausesOf_sub h2
        exact ⟨x.cl.toNat, by omega, List.any_eq_true.2 ⟨x, hx, by simp [useQ]; left; omega⟩, by omega⟩
    · obtain ⟨i, hi, hp, rfl⟩ := pickN_mem.1 h2
      refine ⟨i, hi, List.any_eq_true.2 ⟨x, hx, ?_⟩, rfl⟩
      have hh : x.holds = false := by
        have := hr x hx
        unfold rightB at this
        cases hx2 : x.holds with
        | false => rfl
        | true =>
          exfalso
          rw [hx2] at this
          simp only [Bool.true_and] at this
          split at this
          · simp only [Bool.and_eq_true] at this
            have := factsOf_sub (i := x.fact) (by simpa using this.1)
            omega
          · simp only [if_true, Bool.and_eq_true] at this
            have := clausesOf_sub (i := x.cl) (by simpa using this.1.1.1.2)
            omega
      have h4 : (c.cls.getD i default).gives = x.says := by rw [← h3]; simp [Rb.cl]
      unfold useQ
      rw [hh, h4, hp]
      simp
  · rintro ⟨i, hi, hp, rfl⟩
    obtain ⟨x, hx, h1⟩ := List.any_eq_true.1 hp
    have hp2 := right_parts (hr x hx)
    simp only [useQ, Bool.or_eq_true, Bool.and_eq_true, decide_eq_true_eq, Bool.not_eq_true'] at h1
    rcases h1 with h1 | ⟨h1, h2, h3⟩
    · rcases hp2.2 with h4 | ⟨h4, h5⟩
      · omega
      · exact ⟨x, hx, by omega, .inl ⟨by omega, h1.symm⟩⟩
    · have h4 := hr x hx
      unfold rightB at h4
      rw [h1] at h4
      simp only [Bool.false_and, Bool.false_eq_true, if_false, Bool.and_eq_true, decide_eq_true_eq] at h4
      refine ⟨x, hx, by omega, .inr ⟨by omega, pickN_mem.2 ⟨i, hi, h3, rfl⟩, ?_⟩⟩
      rw [← h2]
      simp [Rb.cl]

end Go.Proofs.YtfidioedjmjddaaGreat
