/-
  What Uses returns, in plain words; without exceptions more makes nothing untrue.
-/
import Derived.Test.YtfidioedjmjddaaGreatQStU
import Derived.Test.YtfidioedjmjddaaGreatQPl
namespace Go.Proofs.YtfidioedjmjddaaGreat
open Go.RowKit Go.Lib

theorem snoc_ind {α : Type} {p : List α → Prop} (nil : p []) (snoc : ∀ l x, p l → p (l ++ [x])) (l : List α) : p l := by
  have key : ∀ m : List α, p m.reverse := fun m => by
    induction m with
    | nil => exact nil
    | cons x m ih => rw [List.reverse_cons]; exact snoc _ _ ih
  have := key l.reverse
  rwa [List.reverse_reverse] at this
theorem useF_mem {l : List Fd} {m : Int} : m ∈ useF l ↔ ∃ x, x ∈ l ∧ 0 ≤ x.fact ∧ x.fact = m := by
  induction l using snoc_ind with
  | nil => simp [useF]
  | snoc l x ih =>
    rw [useF_snoc]
    constructor
    · intro h
      split at h
      · rename_i h0
        rcases insI_mem.1 h with h | h
        · obtain ⟨y, hy, h1, h2⟩ := ih.1 h
          exact ⟨y, by simp [hy], h1, h2⟩
        · exact ⟨x, by simp, h0, h.symm⟩
      · obtain ⟨y, hy, h1, h2⟩ := ih.1 h
        exact ⟨y, by simp [hy], h1, h2⟩
    · rintro ⟨y, hy, h1, h2⟩
      rcases List.mem_append.1 hy with hy | hy
      · have := ih.2 ⟨y, hy, h1, h2⟩
        split
        · exact insI_mem.2 (.inl this)
        · exact this
      · simp only [List.mem_singleton] at hy
        subst hy
        rw [if_pos h1]
        exact insI_mem.2 (.inr h2.symm)
theorem useC1_mem {c : Rb} {says : Int} {C : List Int} {m : Int} : ∀ (cs : List Int), m ∈ cs.foldl (fun a i => if (c.cl i).gives = says then insI a i else a) C ↔ m ∈ C ∨ m ∈ cs ∧ (c.cl m).gives = says := by
  intro cs
  induction cs generalizing C with
  | nil => simp
  | cons i cs ih =>
    rw [List.foldl_cons, ih]
    split
    · rename_i hg
      rw [insI_mem]
      constructor
      · rintro ((h | h) | h)
        · exact .inl h
        · subst h; exact .inr ⟨by simp, hg⟩
        · exact .inr ⟨by simp [h.1], h.2⟩
      · rintro (h | ⟨h, h2⟩)
        · exact .inl (.inl h)
        · rcases List.mem_cons.1 h with h | h
          · exact .inl (.inr h)
          · exact .inr ⟨h, h2⟩
    · rename_i hg
      constructor
      · rintro (h | h)
        · exact .inl h
        · exact .inr ⟨by simp [h.1], h.2⟩
      · rintro (h | ⟨h, h2⟩)
        · exact .inl h
        · rcases List.mem_cons.1 h with h | h
          · subst h; exact absurd h2 hg
          · exact .inr ⟨h, h2⟩
theorem useC_mem {c : Rb} {cs : List Int} {l : List Fd} {m : Int} : m ∈ useC c cs l ↔ ∃ x, x ∈ l ∧ x.fact < 0 ∧ ((0 ≤ x.cl ∧ m = x.cl) ∨ (x.cl < 0 ∧ m ∈ cs ∧ (c.cl m).gives = x.says)) := by
  induction l using snoc_ind with
  | nil => simp [useC]
  | snoc l x ih =>
    have e : m ∈ useC c cs (l ++ [x]) ↔ m ∈ useC c cs l ∨ (x.fact < 0 ∧ ((0 ≤ x.cl ∧ m = x.cl) ∨ (x.cl < 0 ∧ m ∈ cs ∧ (c.cl m).gives = x.says))) := by
      unfold useC
      rw [List.foldl_append]
      simp only [List.foldl_cons, List.foldl_nil]
      split
      · constructor
        · exact .inl
        · rintro (h | ⟨h, _⟩)
          · exact h
          · omega
      · split
        · rw [insI_mem]
          constructor
          · rintro (h | h)
            · exact .inl h
            · exact .inr ⟨by omega, .inl ⟨by omega, h⟩⟩
          · rintro (h | ⟨_, h | h⟩)
            · exact .inl h
            · exact .inr h.2
            · omega
        · rw [useC1_mem]
          constructor
          · rintro (h | h)
            · exact .inl h
            · exact .inr ⟨by omega, .inr ⟨by omega, h⟩⟩
          · rintro (h | ⟨_, h | h⟩)
            · exact .inl h
            · omega
            · exact .inr h.2
    rw [e, ih]
    constructor
    · rintro (⟨y, hy, h⟩ | h)
      · exact ⟨y, by simp [hy], h⟩
      · exact ⟨x, by simp, h⟩
    · rintro ⟨y, hy, h⟩
      rcases List.mem_append.1 hy with hy | hy
      · exact .inl ⟨y, hy, h⟩
      · simp only [List.mem_singleton] at hy; subst hy; exact .inr h
/-- The facts and clauses of a right finding. -/
theorem right_parts {c : Rb} {fs cs : List Int} {x : Fd} {l : List Fd} (h : rightB c fs cs x l = true) : (x.fact = -1 ∨ x.fact ∈ fs) ∧ (x.cl = -1 ∨ x.cl ∈ cs ∧ x.fact = -1) := by
  unfold rightB at h
  split at h
  · rename_i h1
    simp only [Bool.and_eq_true, decide_eq_true_eq] at h1 h
    exact ⟨.inr (by simpa using h.1), .inl h1.2⟩
  · split at h
    · simp only [Bool.and_eq_true, decide_eq_true_eq] at h
      exact ⟨.inl h.1.1.1.1, .inr ⟨by simpa using h.1.1.1.2, h.1.1.1.1⟩⟩
    · simp only [Bool.and_eq_true, decide_eq_true_eq] at h
      exact ⟨.inl h.1.1.1, .inl h.1.1.2⟩
theorem check_right {c : Rb} {q : Qn} {a : Bool} {l : List Fd} (h : checkB c q a l = true) : ∀ x, x ∈ l → rightB c (factsOf c q) (clausesOf c q) x l = true := by
  simp only [checkB, provesB, Bool.and_eq_true] at h
  exact fun x hx => (provesGo_all h.2.1.1.1 x hx).2.2
theorem subs_use {c : Rb} {q : Qn} {a : Bool} {l : List Fd} (h : checkB c q a l = true) (s1 : (useF l).Pairwise (· < ·)) (s2 : (useC c (clausesOf c q) l).Pairwise (· < ·)) :
    Subs c (useF l) (useC c (clausesOf c q) l) ∧ (∀ x, x ∈ l → 0 ≤ x.fact → x.fact ∈ useF l) ∧ (∀ x, x ∈ l → 0 ≤ x.cl → x.cl ∈ useC c (clausesOf c q) l) := by
  have hr := check_right h
  refine ⟨⟨fun i hi => ?_, fun i hi => ?_, s1, s2⟩, fun x hx h0 => useF_mem.2 ⟨x, hx, h0, rfl⟩, fun x hx h0 => ?_⟩
  · obtain ⟨x, hx, h0, rfl⟩ := useF_mem.1 hi
    rcases (right_parts (hr x hx)).1 with h1 | h1
    · omega
    · exact fa_mem_of h1
  · obtain ⟨x, hx, _, ⟨h1, rfl⟩ | ⟨_, h1, _⟩⟩ := useC_mem.1 hi
    · rcases (right_parts (hr x hx)).2 with h2 | h2
      · omega
      · exact cl_mem_of h2.1
    · exact cl_mem_of h1
  · rcases (right_parts (hr x hx)).2 with h2 | h2
    · omega
    · exact useC_mem.2 ⟨x, hx, by omega, .inl ⟨h0, rfl⟩⟩

/-- More facts and clauses, none with exceptions: what was so stays so. -/
theorem so_mono {c c' : Rb} {fs cs fs' cs' : List Int} (hG : Good c fs cs) (hG' : Good c' fs' cs') (hf : ∀ i, i ∈ fs → ∃ i', i' ∈ fs' ∧ (c'.fa i').says = (c.fa i).says) (hc : ∀ i, i ∈ cs → ∃ i', i' ∈ cs' ∧ c'.cl i' = c.cl i) (hb : ∀ i, i ∈ cs → (c.cl i).bars = []) :
    ∀ n, 0 ≤ n → soB c fs cs n = true → soB c' fs' cs' n = true := by
  have key : ∀ (k : Nat) (j : Nat), j < k → soB c fs cs j = true → soB c' fs' cs' j = true := by
    intro k
    induction k with
    | zero => intro j hj; omega
    | succ k ih =>
      intro j hj h
      rw [soB_eq hG j (by omega), Bool.or_eq_true, List.any_eq_true, List.any_eq_true] at h
      rw [soB_eq hG' j (by omega), Bool.or_eq_true, List.any_eq_true, List.any_eq_true]
      rcases h with ⟨i, hi, h⟩ | ⟨i, hi, h⟩
      · obtain ⟨i', h1, h2⟩ := hf i hi
        exact .inl ⟨i', h1, by rw [h2]; exact h⟩
      · obtain ⟨i', h1, h2⟩ := hc i hi
        refine .inr ⟨i', h1, ?_⟩
        unfold givesB at h ⊢
        rw [h2, hb i hi]
        simp only [Bool.and_eq_true, decide_eq_true_eq, List.all_eq_true] at h ⊢
        refine ⟨⟨h.1.1, fun m hm => ?_⟩, by simp⟩
        have ht := hG.terms i hi m (.inl hm)
        obtain ⟨m', rfl⟩ := Int.eq_ofNat_of_zero_le ht.1
        exact ih m' (by omega) (h.1.2 _ hm)
  intro n hn
  obtain ⟨k, rfl⟩ := Int.eq_ofNat_of_zero_le hn
  exact key (k + 1) k (by omega)

end Go.Proofs.YtfidioedjmjddaaGreat
