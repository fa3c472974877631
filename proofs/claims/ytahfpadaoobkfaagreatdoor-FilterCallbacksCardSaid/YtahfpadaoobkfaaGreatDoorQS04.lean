/-
  A region that draws its order (Reg2.lean) whose effects float: behind what is taken early, each effect is walked once, whatever is done already; its value and what is known of it stay under the other effects.
-/
import Derived.Test.YtahfpadaoobkfaaGreatDoorQS03
namespace Go.Proofs.YtahfpadaoobkfaaGreatDoor

theorem cnt_set : ∀ (l : List Bool) (i : Nat), l[i]? = some false → (l.set i true).countP (fun b => !b) + 1 = l.countP (fun b => !b)
  | [], i, h => by simp at h
  | false :: l, 0, _ => by simp
  | true :: l, 0, h => by simp at h
  | b :: l, i + 1, h => by
    have := cnt_set l i (by simpa using h)
    simp only [List.set_cons_succ, List.countP_cons]
    omega
theorem ready_false {ops : Array Oper} {l : Array Bool} {i : Nat} (h : i ∈ Region.ready .any ops l) : l.toList[i]? = some false ∧ l.getD i false = false := by
  have h1 := (mem_ready.1 h).1
  rcases Nat.lt_or_ge i l.size with h' | h'
  · simp [h'] at h1 ⊢; exact h1
  · simp [Array.getElem?_eq_none h'] at h1

def upG (g : Nat → Value) (i : Nat) (v : Value) : Nat → Value := fun j => if j = i then v else g j
theorem upG_self (g : Nat → Value) (i : Nat) (v : Value) : upG g i v i = v := by simp [upG]
theorem upG_ne (g : Nat → Value) {i j : Nat} (v : Value) (h : j ≠ i) : upG g i v j = g j := by simp [upG, h]

/-- The temporaries that the effects write: operation i writes d. -/
def putT (g : Nat → Value) : List (Nat × Nat) → Array Value → Array Value
  | [], t => t
  | (i, d) :: ds, t => putT g ds (t.setIfInBounds d (g i))
def putG (a : Act) (ds : List (Nat × Nat)) (g : Nat → Value) : Act := { a with tmps := putT g ds a.tmps }

section
variable {P : Program} {ops : Array Oper} {Q : Exit → Act → World → Prop} {S : World → Prop} {fin : Nat}

theorem wpAnyF_of_inv (J : Array Bool → Act → World → Prop)
    (hstep : ∀ l a w i, Closed ops l → i ∈ Region.ready .any ops l → J l a w → wpOp P ops Q i (fun a' w' => ((l.setIfInBounds i true).getD fin false = true ∨ S w') ∧ J (l.setIfInBounds i true) a' w') a w)
    (hend : ∀ l a w, Closed ops l → Region.ready .any ops l = [] → J l a w → Q .normal a w) :
    ∀ (fuel : Nat) (l : Array Bool) (a : Act) (w : World), Closed ops l → l.toList.countP (fun b => !b) ≤ fuel → J l a w → wpAnyF P ops Q S fin fuel l a w
  | 0, l, a, w, hc, hl, h => by
    have h0 : Region.ready .any ops l = [] := List.eq_nil_iff_forall_not_mem.2 fun i hi => by
      have := cnt_set _ _ (ready_false hi).1
      omega
    exact ⟨h0, hend l a w hc h0 h⟩
  | fuel + 1, l, a, w, hc, hl, h => ⟨fun h0 => hend l a w hc h0 h, fun i hi => wpOp_mono (fun a' w' hh => ⟨hh.1, wpAnyF_of_inv J hstep hend fuel _ a' w' (closed_set hc hi) (by
      have := cnt_set _ _ (ready_false hi).1
      rw [Array.toList_setIfInBounds]
      omega) hh.2⟩) (hstep l a w i hc hi h)⟩

/-- Each effect by itself. -/
def StepsE (P : Program) (ops : Array Oper) (Q : Exit → Act → World → Prop) (S : World → Prop) (A : (Nat → Value) → Act) (Pd : Nat → Value → World → Prop) : List (Nat × List Nat) → Prop
  | [] => True
  | (i, D) :: E => (∀ g w, S w → (∀ j ∈ D, Pd j (g j) w) → wpOp P ops Q i (fun a' w' => S w' ∧ ∃ v, a' = A (upG g i v) ∧ Pd i v w' ∧ ∀ j u, j ≠ i → Pd j u w → Pd j u w') (A g) w) ∧ StepsE P ops Q S A Pd E
theorem putT_other {i : Nat} {v : Value} {g : Nat → Value} : ∀ {ds : List (Nat × Nat)} {t : Array Value}, i ∉ ds.map (·.1) → putT (upG g i v) ds t = putT g ds t
  | [], _, _ => rfl
  | (j, d) :: ds, t, h => by
    simp only [List.map_cons, List.mem_cons, not_or] at h
    simp only [putT]
    rw [upG_ne g v (fun e => h.1 e.symm), putT_other h.2]
theorem putT_self : ∀ (ds : List (Nat × Nat)) (t : Array Value), (ds.map (·.1)).Nodup → ∃ g, putT g ds t = t
  | [], t, _ => ⟨fun _ => undef, rfl⟩
  | (i, d) :: ds, t, h => by
    simp only [List.map_cons, List.nodup_cons] at h
    obtain ⟨g, hg⟩ := putT_self ds t h.2
    refine ⟨upG g i (t.getD d undef), ?_⟩
    have e : t.setIfInBounds d (t.getD d undef) = t := by
      by_cases hd : d < t.size
      · simp [hd, Array.setIfInBounds]
      · simp [Array.setIfInBounds, hd]
    simp only [putT, upG_self, e]
    rw [putT_other h.1, hg]

def permI (ops : Array Oper) (fin : Nat) (tk : List Nat) (E : List (Nat × List Nat)) : Bool :=
  ((List.range ops.size).all fun i => tk.contains i || (E.map (·.1)).contains i || i == fin)
    && ((List.range ops.size).all fun i => i == fin || waitsB ops ops.size i fin)
    && decide (fin < ops.size) && !tk.contains fin
    && ((List.range ops.size).all fun i => match ops[i]? with | none => false | some o => o.after.all fun e => !Region.binds .any e || decide (e.on < i))
    && (E.all fun x => !(x.1 == fin) && !tk.contains x.1 && decide (x.1 < ops.size) && x.2.all fun j => !tk.contains j && (match ops[x.1]? with | none => false | some o => o.after.any fun e => Region.binds .any e && e.on == j))

def InvR (P : Program) (ops : Array Oper) (Q : Exit → Act → World → Prop) (S : World → Prop) (fin : Nat) (E : List (Nat × List Nat)) (a : Act) (w : World) : Prop :=
  ∃ (A : (Nat → Value) → Act) (Pd : Nat → Value → World → Prop) (g0 : Nat → Value), a = A g0 ∧ S w ∧ StepsE P ops Q S A Pd E ∧ ∀ g w, S w → (∀ e ∈ E, Pd e.1 (g e.1) w) → wpOp P ops Q fin (fun a' w' => Q .normal a' w') (A g) w

def setAll (l : Array Bool) : List Nat → Array Bool
  | [] => l
  | i :: tk => setAll (l.setIfInBounds i true) tk
def permTk (ops : Array Oper) (fin : Nat) : List Nat → Array Bool → Bool
  | [], _ => true
  | i :: t, l => (match ops[i]? with
      | none => false
      | some _ => decide (i < l.size) && Region.free .any ops l i && (Region.ready .any ops l).contains i && waitsB ops ops.size i fin) && permTk ops fin t (l.setIfInBounds i true)
def wpTk (P : Program) (ops : Array Oper) (S : World → Prop) (R : Act → World → Prop) : List Nat → Act → World → Prop
  | [], a, w => R a w
  | i :: t, a, w => match ops[i]? with
    | none => False
    | some o => ∃ v, YieldsIf P ops S o v a ∧ S w ∧ wpTk P ops S R t (a.put o.dst v) w
theorem wpAnyF_of_tk {R : Act → World → Prop} {m : Nat} (hs : Region.noSelect ops = true) (hQ : ∀ (d : Option Tmp) (v : Value) c a w, Q (.panic c) (a.put d v) w → Q (.panic c) a w) :
    ∀ (tk : List Nat) (l : Array Bool) (a : Act) (w : World), permTk ops fin tk l = true → Closed ops l → (∀ a w, Closed ops (setAll l tk) → R a w → wpAnyF P ops Q S fin m (setAll l tk) a w) → wpTk P ops S R tk a w → wpAnyF P ops Q S fin (m + tk.length) l a w
  | [], l, a, w, _, hc, hR, h => hR a w hc h
  | i :: t, l, a, w, hp, hc, hR, h => by
    simp only [permTk, Bool.and_eq_true] at hp
    obtain ⟨h1, h2⟩ := hp
    cases ho : ops[i]? with
    | none => simp [ho] at h1
    | some o =>
      simp only [ho, Bool.and_eq_true, decide_eq_true_eq] at h1
      obtain ⟨⟨⟨_, hfr⟩, hrd⟩, hw⟩ := h1
      simp only [wpTk, ho] at h
      obtain ⟨v, hy, hS, h3⟩ := h
      have hr : i ∈ Region.ready .any ops l := by simpa using hrd
      exact wpAnyF_first ho (Region.noSelect_spec hs) (hQ o.dst v) hw _ l a w hc (Region.free_spec ho hfr) hr hy hS (wpAnyF_of_tk hs hQ t _ _ w h2 (closed_set hc hr) hR h3)

def takenB (n : Nat) (tk : List Nat) : Bool := (List.range n).all fun k => (setAll (Array.replicate n false) tk).getD k false == tk.contains k
theorem setAll_size : ∀ (tk : List Nat) (l : Array Bool), (setAll l tk).size = l.size
  | [], _ => rfl
  | i :: tk, l => by rw [setAll, setAll_size tk]; simp
theorem tk_take {R : Act → World → Prop} {k : Nat} {d : Tmp} {t : List Nat} {a : Act} {w : World} {o : Oper} {v : Value} (ho : ops[k]? = some o) (hod : o.dst = some d) (hg : o.guard = none) (hS : S w)
    (hy : ∀ w, S w → (execOp a.eval o).run P w = .ok (.value v) w) (h : wpTk P ops S R t { a with tmps := a.tmps.setIfInBounds d v } w) : wpTk P ops S R (k :: t) a w := by
  simp only [wpTk, ho]
  exact ⟨v, .inl ⟨by simp [Region.wanted, hg], hy⟩, hS, by rw [put_some hod]; exact h⟩
theorem inv_fin {i : Nat} {a : Act} {w : World} {o : Oper} (ho : ops[i]? = some o) (hg : o.guard = none) (h : ∀ K : Act → World → Prop, (∀ a' w', Q .normal a' w' → K a' w') → o.wp P a w K Q) : wpOp P ops Q i (fun a' w' => Q .normal a' w') a w := by
  unfold wpOp
  simp only [ho, Region.wanted, hg, if_true]
  exact .inl (h _ fun _ _ h => h)
end

end Go.Proofs.YtahfpadaoobkfaaGreatDoor
