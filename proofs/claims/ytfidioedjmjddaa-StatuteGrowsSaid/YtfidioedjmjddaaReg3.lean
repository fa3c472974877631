/-
  A region that draws its order (Reg2.lean) in which, behind what is taken early, two operations may come first: both orders are walked.
-/
import Derived.Test.YtfidioedjmjddaaReg2
namespace Go.Proofs.Ytfidioedjmjddaa

section
variable {P : Program} {ops : Array Oper} {Q : Exit → Act → World → Prop} {S : World → Prop} {fin : Nat}

def permK (ops : Array Oper) (fin i j : Nat) (p1 p2 : List Nat) : List Nat → Array Bool → Bool
  | [], listed => Region.ready .any ops listed == [i, j] && decide (i < listed.size) && decide (j < listed.size) && permF ops fin p1 (listed.setIfInBounds i true) && permF ops fin p2 (listed.setIfInBounds j true) && p1.length == p2.length
  | k :: rest, listed => (match ops[k]? with
      | none => false
      | some o => decide (k < listed.size) && !effB o && Region.free .any ops listed k && (Region.ready .any ops listed).contains k && waitsB ops ops.size k fin) && permK ops fin i j p1 p2 rest (listed.setIfInBounds k true)
def wpFork (P : Program) (ops : Array Oper) (Q : Exit → Act → World → Prop) (S : World → Prop) (fin i j : Nat) (p1 p2 : List Nat) : List Nat → Act → World → Prop
  | [], a, w => wpOp P ops Q i (fun a' w' => S w' ∧ wpMixF P ops Q S fin p1 a' w') a w ∧ wpOp P ops Q j (fun a' w' => S w' ∧ wpMixF P ops Q S fin p2 a' w') a w
  | k :: rest, a, w => match ops[k]? with
    | none => False
    | some o => ∃ v, YieldsIf P ops S o v a ∧ S w ∧ wpFork P ops Q S fin i j p1 p2 rest (a.put o.dst v) w

theorem wpAnyF_of_fork {i j : Nat} {p1 p2 : List Nat} (hs : Region.noSelect ops = true) (hQ : ∀ (d : Option Tmp) (v : Value) c a w, Q (.panic c) (a.put d v) w → Q (.panic c) a w) :
    ∀ (pre : List Nat) (listed : Array Bool) (a : Act) (w : World), permK ops fin i j p1 p2 pre listed = true → Closed ops listed → wpFork P ops Q S fin i j p1 p2 pre a w → wpAnyF P ops Q S fin (p1.length + 1 + pre.length) listed a w
  | [], listed, a, w, hp, hc, h => by
    simp only [permK, Bool.and_eq_true, beq_iff_eq, decide_eq_true_eq] at hp
    obtain ⟨⟨⟨⟨⟨h1, h2⟩, h3⟩, h4⟩, h5⟩, h6⟩ := hp
    refine ⟨fun h0 => (by rw [h0] at h1; cases h1), fun r hr => ?_⟩
    have hr' := hr
    rw [h1] at hr
    simp only [List.mem_cons, List.not_mem_nil, or_false] at hr
    rcases hr with rfl | rfl
    · exact wpOp_mono (fun a' w' hh => ⟨.inr hh.1, wpAnyF_of_mix hs hQ p1 _ a' w' h4 (closed_set hc hr') hh.2⟩) h.1
    · refine wpOp_mono (fun a' w' hh => ⟨.inr hh.1, ?_⟩) h.2
      have := wpAnyF_of_mix hs hQ p2 _ a' w' h5 (closed_set hc hr') hh.2
      rw [← h6] at this
      exact this
  | k :: rest, listed, a, w, hp, hc, h => by
    simp only [permK, Bool.and_eq_true] at hp
    obtain ⟨h1, h2⟩ := hp
    cases ho : ops[k]? with
    | none => simp [ho] at h1
    | some o =>
      simp only [ho, Bool.and_eq_true, decide_eq_true_eq] at h1
      obtain ⟨⟨⟨⟨hsz, he⟩, hfr⟩, hrd⟩, hw⟩ := h1
      simp only [wpFork, ho] at h
      obtain ⟨v, hy, hS, h3⟩ := h
      have hr : k ∈ Region.ready .any ops listed := by simpa using hrd
      exact wpAnyF_first ho (Region.noSelect_spec hs) (hQ o.dst v) hw _ listed a w hc (Region.free_spec ho hfr) hr hy hS (wpAnyF_of_fork hs hQ rest _ _ w h2 (closed_set hc hr) h3)

/-- THE BEGINNING. -/
theorem reg_fork {id : Nat} {a : Act} {w : World} {l : List Oper} (S : World → Prop) (fin i j : Nat) (pre p1 p2 : List Nat) (hm : P.follows .mixedOrders = true) (hs : Region.noSelect l.toArray = true) (hp : permK l.toArray fin i j p1 p2 pre (Array.replicate l.toArray.size false) = true) (hl : p1.length + 1 + pre.length = l.toArray.size)
    (h : wpFork P l.toArray (NoPanic Q) S fin i j p1 p2 pre a w.drew) : (Code.region id l.toArray true).wp P Q a w := by
  have hc : Closed l.toArray (Array.replicate l.toArray.size false) := fun k o _ hk => by
    exfalso
    rw [Array.getD_eq_getD_getElem?, Array.getElem?_replicate] at hk
    split at hk <;> cases hk
  have h2 := wpAnyF_of_fork hs (fun _ _ _ _ _ h => h) pre _ a _ hp hc h
  rw [hl] at h2
  exact wp_region_noPanic (wp_region_any hm (wpAny_of_F _ _ _ _ h2))
theorem fork_take {i j k : Nat} {p1 p2 : List Nat} {d : Tmp} {rest : List Nat} {a : Act} {w : World} {o : Oper} {v : Value} (ho : ops[k]? = some o) (hod : o.dst = some d) (hg : o.guard = none) (hS : S w)
    (hy : ∀ w, S w → (execOp a.eval o).run P w = .ok (.value v) w) (h : wpFork P ops Q S fin i j p1 p2 rest { a with tmps := a.tmps.setIfInBounds d v } w) : wpFork P ops Q S fin i j p1 p2 (k :: rest) a w := by
  simp only [wpFork, ho]
  exact ⟨v, .inl ⟨by simp [Region.wanted, hg], hy⟩, hS, by rw [put_some hod]; exact h⟩
theorem fork_do {i : Nat} {p : List Nat} {a : Act} {w : World} {o : Oper} (ho : ops[i]? = some o) (hg : o.guard = none)
    (h : ∀ K : Act → World → Prop, (∀ a' w', S w' → wpMixF P ops Q S fin p a' w' → K a' w') → o.wp P a w K Q) : wpOp P ops Q i (fun a' w' => S w' ∧ wpMixF P ops Q S fin p a' w') a w := by
  unfold wpOp
  simp only [ho, Region.wanted, hg, if_true]
  exact .inl (h _ fun a' w' h1 h2 => ⟨h1, h2⟩)
end

end Go.Proofs.Ytfidioedjmjddaa
