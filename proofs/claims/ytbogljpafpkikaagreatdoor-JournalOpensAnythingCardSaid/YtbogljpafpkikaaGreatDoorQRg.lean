/-
  A region that draws its order, walked once, in an order that is given: operations that leave the world alone and yield one value in every world that meets S are taken as early as possible; where another one comes, it is the only one that may come.
-/
import Derived.OrdersHeld
import Derived.RegionTactic
import Derived.Deep.RegionHeld3
namespace Go.Proofs.YtbogljpafpkikaaGreatDoor

section
variable {P : Program} {ops : Array Oper} {Q : Exit → Act → World → Prop} {S : World → Prop}

/-- Does the operation change the world, or may it? -/
def effB (o : Oper) : Bool := match o.op with
  | .move _ | .assign _ | .pick .. | .nilCheck _ | .binOp .. | .unOp .. | .fieldAddr .. | .field .. | .indexAddr .. | .index .. | .extract .. | .slice .. | .load .. | .build .. | .makeInterface .. => false
  | .call { callee := .builtin b, .. } => match b with | .len | .cap | .min | .max => false | _ => true
  | _ => true

/-- The given order is one that may be walked. -/
def permB (ops : Array Oper) : List Nat → Array Bool → Bool
  | [], listed => (Region.ready .any ops listed).isEmpty
  | i :: rest, listed => (match ops[i]? with
      | none => false
      | some o => if effB o then Region.ready .any ops listed == [i] else Region.free .any ops listed i && (Region.ready .any ops listed).contains i) && permB ops rest (listed.setIfInBounds i true)

/-- The walk along an order. -/
def wpMix (P : Program) (ops : Array Oper) (Q : Exit → Act → World → Prop) (S : World → Prop) : List Nat → Act → World → Prop
  | [], a, w => Q .normal a w
  | i :: rest, a, w => match ops[i]? with
    | none => False
    | some o => if effB o then wpOp P ops Q i (fun a' w' => S w' ∧ wpMix P ops Q S rest a' w') a w else ∃ v, YieldsIf P ops S o v a ∧ wpMix P ops Q S rest (a.put o.dst v) w

theorem wpAnyH_of_mix (hs : Region.noSelect ops = true) (hQ : ∀ (d : Option Tmp) (v : Value) c a w, Q (.panic c) (a.put d v) w → Q (.panic c) a w) :
    ∀ (perm : List Nat) (listed : Array Bool) (a : Act) (w : World), permB ops perm listed = true → S w → wpMix P ops Q S perm a w → wpAnyH P .any ops Q S perm.length listed a w
  | [], listed, a, w, hp, _, h => by
    simp only [permB, List.isEmpty_iff] at hp
    exact wpAnyH_done hp h 0
  | i :: rest, listed, a, w, hp, hS, h => by
    simp only [permB, Bool.and_eq_true] at hp
    obtain ⟨h1, h2⟩ := hp
    cases ho : ops[i]? with
    | none => simp [ho] at h1
    | some o =>
      simp only [ho] at h1
      simp only [wpMix, ho] at h
      cases he : effB o with
      | true =>
        simp only [he, if_true, beq_iff_eq] at h1
        simp only [he, if_true] at h
        refine wpAnyH_all h1 (by simp) fun j hj => ?_
        simp only [List.mem_singleton] at hj
        subst hj
        exact wpOp_mono (fun a' w' hh => ⟨hh.1, wpAnyH_of_mix hs hQ rest _ a' w' h2 hh.1 hh.2⟩) h
      | false =>
        simp only [he, Bool.false_eq_true, if_false, Bool.and_eq_true] at h1 h
        obtain ⟨v, hy, h3⟩ := h
        exact wpAnyH_take ho hs h1.1 h1.2 (hQ o.dst v) hy hS (wpAnyH_of_mix hs hQ rest _ _ w h2 hS h3)

/-- THE BEGINNING. -/
theorem reg_mix {id : Nat} {a : Act} {w : World} {l : List Oper} (S : World → Prop) (perm : List Nat) (hm : P.follows .mixedOrders = true) (hs : Region.noSelect l.toArray = true) (hp : permB l.toArray perm (Array.replicate l.toArray.size false) = true) (hl : perm.length = l.toArray.size) (hS : S w.drew)
    (h : wpMix P l.toArray (NoPanic Q) S perm a w.drew) : (Code.region id l.toArray true).wp P Q a w := by
  have h2 := wpAnyH_of_mix hs (fun _ _ _ _ _ h => h) perm _ a _ hp hS h
  rw [hl] at h2
  exact wp_region_noPanic (wp_region_held (S := S) hm h2)

theorem mix_take {i : Nat} {rest : List Nat} {a : Act} {w : World} {o : Oper} {v : Value} (ho : ops[i]? = some o) (he : effB o = false) (hy : YieldsIf P ops S o v a) (h : wpMix P ops Q S rest (a.put o.dst v) w) : wpMix P ops Q S (i :: rest) a w := by
  simp only [wpMix, ho, he, Bool.false_eq_true, if_false]
  exact ⟨v, hy, h⟩
theorem mix_do {i : Nat} {rest : List Nat} {a : Act} {w : World} {o : Oper} (ho : ops[i]? = some o) (he : effB o = true) (hw : Region.wanted o (yielded ops a.tmps) = true)
    (h : ∀ K : Act → World → Prop, (∀ a' w', S w' → wpMix P ops Q S rest a' w' → K a' w') → o.wp P a w K Q) : wpMix P ops Q S (i :: rest) a w := by
  simp only [wpMix, ho, he, if_true]
  unfold wpOp
  simp only [ho, hw, if_true]
  exact .inl (h _ fun a' w' h1 h2 => ⟨h1, h2⟩)
theorem mix_skip {i : Nat} {rest : List Nat} {a : Act} {w : World} {o : Oper} (ho : ops[i]? = some o) (hw : Region.wanted o (yielded ops a.tmps) = false) (hS : S w) (h : wpMix P ops Q S rest (a.put o.dst undef) w) : wpMix P ops Q S (i :: rest) a w := by
  cases he : effB o with
  | true =>
    simp only [wpMix, ho, he, if_true]
    unfold wpOp
    simp only [ho, hw, Bool.false_eq_true, if_false]
    exact ⟨hS, h⟩
  | false => exact mix_take ho he (.inr ⟨hw, rfl⟩) h
theorem wanted_of {a : Act} {o : Oper} {j t : Nat} {want b : Bool} (hg : o.guard = some (j, want)) (hd : (ops[j]?).bind (·.dst) = some t) (ht : a.tmps[t]? = some (.bool b)) : Region.wanted o (yielded ops a.tmps) = (b == want) := by
  simp only [Region.wanted, hg, yielded, hd, Option.bind_some, ht]
  rfl
theorem put_some {a : Act} {o : Oper} {d : Tmp} (h : o.dst = some d) (v : Value) : a.put o.dst v = { a with tmps := a.tmps.setIfInBounds d v } := by rw [h]; rfl
theorem mix_take1 {i : Nat} {d : Tmp} {rest : List Nat} {a : Act} {w : World} {o : Oper} {v : Value} (ho : ops[i]? = some o) (hod : o.dst = some d) (he : effB o = false) (hg : o.guard = none)
    (hy : ∀ w, S w → (execOp a.eval o).run P w = .ok (.value v) w) (h : wpMix P ops Q S rest { a with tmps := a.tmps.setIfInBounds d v } w) : wpMix P ops Q S (i :: rest) a w :=
  mix_take ho he (.inl ⟨by simp [Region.wanted, hg], hy⟩) (by rw [put_some hod]; exact h)
theorem mix_takeg {i j t : Nat} {want : Bool} {d : Tmp} {rest : List Nat} {a : Act} {w : World} {o : Oper} {v : Value} (ho : ops[i]? = some o) (hod : o.dst = some d) (he : effB o = false) (hg : o.guard = some (j, want)) (hd : (ops[j]?).bind (·.dst) = some t) (ht : a.tmps[t]? = some (.bool want))
    (hy : ∀ w, S w → (execOp a.eval o).run P w = .ok (.value v) w) (h : wpMix P ops Q S rest { a with tmps := a.tmps.setIfInBounds d v } w) : wpMix P ops Q S (i :: rest) a w :=
  mix_take ho he (.inl ⟨by rw [wanted_of hg hd ht]; simp, hy⟩) (by rw [put_some hod]; exact h)
theorem mix_dog {i j t : Nat} {want : Bool} {rest : List Nat} {a : Act} {w : World} {o : Oper} (ho : ops[i]? = some o) (he : effB o = true) (hg : o.guard = some (j, want)) (hd : (ops[j]?).bind (·.dst) = some t) (ht : a.tmps[t]? = some (.bool want))
    (h : ∀ K : Act → World → Prop, (∀ a' w', S w' → wpMix P ops Q S rest a' w' → K a' w') → o.wp P a w K Q) : wpMix P ops Q S (i :: rest) a w :=
  mix_do ho he (by rw [wanted_of hg hd ht]; simp) h
theorem mix_skipg {i j t : Nat} {want : Bool} {rest : List Nat} {a : Act} {w : World} {o : Oper} (ho : ops[i]? = some o) (hg : o.guard = some (j, want)) (hd : (ops[j]?).bind (·.dst) = some t) (ht : a.tmps[t]? = some (.bool (!want))) (hS : S w) (h : wpMix P ops Q S rest (a.put o.dst undef) w) : wpMix P ops Q S (i :: rest) a w :=
  mix_skip ho (by rw [wanted_of hg hd ht]; cases want <;> rfl) hS h
theorem mix_skipT {i j t : Nat} {d : Tmp} {rest : List Nat} {a : Act} {w : World} {o : Oper} (ho : ops[i]? = some o) (hod : o.dst = some d) (hg : o.guard = some (j, true)) (hd : (ops[j]?).bind (·.dst) = some t) (ht : a.tmps[t]? = some (.bool false)) (hS : S w) (h : wpMix P ops Q S rest { a with tmps := a.tmps.setIfInBounds d undef } w) : wpMix P ops Q S (i :: rest) a w := mix_skipg ho hg hd ht hS (by rw [put_some hod]; exact h)
theorem mix_skipF {i j t : Nat} {d : Tmp} {rest : List Nat} {a : Act} {w : World} {o : Oper} (ho : ops[i]? = some o) (hod : o.dst = some d) (hg : o.guard = some (j, false)) (hd : (ops[j]?).bind (·.dst) = some t) (ht : a.tmps[t]? = some (.bool true)) (hS : S w) (h : wpMix P ops Q S rest { a with tmps := a.tmps.setIfInBounds d undef } w) : wpMix P ops Q S (i :: rest) a w := mix_skipg ho hg hd ht hS (by rw [put_some hod]; exact h)
theorem mix_end {a : Act} {w : World} (h : Q .normal a w) : wpMix P ops (NoPanic Q) S [] a w := h
end

end Go.Proofs.YtbogljpafpkikaaGreatDoor

/-
  A region that draws its order, walked once (Reg.lean), where the LAST operation (fin) may break what the others rely on: no operation that is taken early can come behind it, for it waits for them.
-/
namespace Go.Proofs.YtbogljpafpkikaaGreatDoor

section
variable {P : Program} {ops : Array Oper} {Q : Exit → Act → World → Prop} {S : World → Prop} {fin : Nat}

def Closed (ops : Array Oper) (listed : Array Bool) : Prop := ∀ k o, ops[k]? = some o → listed.getD k false = true → ∀ e ∈ o.after, Region.binds .any e = true → listed.getD e.on false = true
/-- Does f wait for i, at once or through others? -/
def waitsB (ops : Array Oper) : Nat → Nat → Nat → Bool
  | 0, _, _ => false
  | n + 1, i, f => match ops[f]? with
    | none => false
    | some o => o.after.any fun e => Region.binds .any e && (e.on == i || waitsB ops n i e.on)

theorem closed_set {listed : Array Bool} {j : Nat} (hc : Closed ops listed) (hj : j ∈ Region.ready .any ops listed) : Closed ops (listed.setIfInBounds j true) := by
  intro k o ho hk e he hb
  refine getD_set_true ?_
  by_cases hjk : j = k
  · subst hjk
    obtain ⟨_, oj, hoj, hall⟩ := mem_ready.1 hj
    rw [ho] at hoj
    cases hoj
    exact hall e he hb
  · rw [getD_set_ne false hjk] at hk
    exact hc k o ho hk e he hb
theorem waits_listed {listed : Array Bool} {i : Nat} (hc : Closed ops listed) : ∀ (n f : Nat), waitsB ops n i f = true → (listed.getD f false = true ∨ f ∈ Region.ready .any ops listed) → listed.getD i false = true
  | 0, _, h, _ => by simp [waitsB] at h
  | n + 1, f, h, hf => by
    unfold waitsB at h
    cases ho : ops[f]? with
    | none => simp [ho] at h
    | some o =>
      simp only [ho] at h
      have hp : ∀ e ∈ o.after, Region.binds .any e = true → listed.getD e.on false = true := by
        rcases hf with hf | hf
        · exact hc f o ho hf
        · obtain ⟨_, o', ho', hall⟩ := mem_ready.1 hf
          rw [ho] at ho'
          cases ho'
          exact hall
      rw [Array.any_eq_true] at h
      obtain ⟨x, hx, h⟩ := h
      simp only [Bool.and_eq_true, Bool.or_eq_true, beq_iff_eq] at h
      obtain ⟨hb, h1⟩ := h
      have he := Array.getElem_mem hx
      generalize o.after[x] = e at *
      have hl := hp e he hb
      rcases h1 with h1 | h1
      · rw [← h1]; exact hl
      · exact waits_listed hc n e.on h1 (.inl hl)

def wpAnyF (P : Program) (ops : Array Oper) (Q : Exit → Act → World → Prop) (S : World → Prop) (fin : Nat) : Nat → Array Bool → Act → World → Prop
  | 0, listed, a, w => Region.ready .any ops listed = [] ∧ Q .normal a w
  | fuel + 1, listed, a, w =>
    (Region.ready .any ops listed = [] → Q .normal a w) ∧
    ∀ i ∈ Region.ready .any ops listed, wpOp P ops Q i (fun a' w' => ((listed.setIfInBounds i true).getD fin false = true ∨ S w') ∧ wpAnyF P ops Q S fin fuel (listed.setIfInBounds i true) a' w') a w
theorem wpAny_of_F : ∀ (fuel : Nat) (listed : Array Bool) (a : Act) (w : World), wpAnyF P ops Q S fin fuel listed a w → wpAny P .any ops Q fuel listed a w
  | 0, _, _, _, h => h
  | fuel + 1, _, _, _, h => ⟨h.1, fun i hi => wpOp_mono (fun a' w' h' => wpAny_of_F fuel _ a' w' h'.2) (h.2 i hi)⟩

theorem wpAnyF_first {i m : Nat} {oi : Oper} {v : Value} (hi : ops[i]? = some oi) (hsel : ∀ (j : Nat) (o : Oper) cs b, ops[j]? = some o → o.op ≠ .select cs b)
    (hQ : ∀ c a w, Q (.panic c) (a.put oi.dst v) w → Q (.panic c) a w) (hw : waitsB ops m i fin = true) :
    ∀ (fuel : Nat) (listed : Array Bool) (a : Act) (w : World), Closed ops listed →
      (∀ j oj, ops[j]? = some oj → j ≠ i → listed.getD j true = false → (∀ e ∈ oj.after, Region.binds .any e = true → e.on ≠ i) → oi.apart ops oj = true) →
      i ∈ Region.ready .any ops listed → YieldsIf P ops S oi v a → S w →
      wpAnyF P ops Q S fin fuel (listed.setIfInBounds i true) (a.put oi.dst v) w → wpAnyF P ops Q S fin (fuel + 1) listed a w := by
  intro fuel
  induction fuel with
  | zero =>
    intro listed a w _ _ hr hy hS H
    refine ⟨fun h => (by rw [h] at hr; cases hr), fun j hj => ?_⟩
    by_cases hji : j = i
    · subst hji; exact hy.wpOp hi hS ⟨.inr hS, H⟩
    · have := ready_mono hj hji
      rw [H.1] at this
      cases this
  | succ fuel ih =>
    intro listed a w hc hfree hr hy hS H
    refine ⟨fun h => (by rw [h] at hr; cases hr), fun j hj => ?_⟩
    have hiun : ∀ {l : Array Bool}, i ∈ Region.ready .any ops l → l.getD i false = true → False := fun h0 h1 => by
      have h2 := (mem_ready.1 h0).1
      rename_i l
      rcases Nat.lt_or_ge i l.size with h' | h'
      · simp [h'] at h1 h2; rw [h2] at h1; cases h1
      · simp [Array.getElem?_eq_none h'] at h1
    by_cases hji : j = i
    · subst hji; exact hy.wpOp hi hS ⟨.inr hS, H⟩
    · have h1 := H.2 j (ready_mono hj hji)
      obtain ⟨hjun, oj, hoj, hall⟩ := mem_ready.1 hj
      have hnot : ∀ e ∈ oj.after, Region.binds .any e = true → e.on ≠ i := fun e he hb heq => hiun hr (heq ▸ hall e he hb)
      have h2 := wpOp_putIf hoj (hfree j oj hoj hji hjun hnot) (fun cs b => hsel i oi cs b hi) (fun cs b => hsel j oj cs b hoj) hQ hy h1
      have hfree' : ∀ k ok, ops[k]? = some ok → k ≠ i → (listed.setIfInBounds j true).getD k true = false →
          (∀ e ∈ ok.after, Region.binds .any e = true → e.on ≠ i) → oi.apart ops ok = true := fun k ok hk hki hun hno => by
        refine hfree k ok hk hki ?_ hno
        by_cases hjk : j = k
        · subst hjk; exact hjun
        · rw [getD_set_ne true hjk] at hun; exact hun
      have hr' := ready_mono hr (Ne.symm hji)
      have hc' := closed_set hc hj
      refine wpOp_mono (fun a' w' h3 => ?_) h2
      have hnf : ¬ (listed.setIfInBounds j true).getD fin false = true := fun hf => hiun hr' (waits_listed hc' m fin hw (.inl hf))
      have hS' : S w' := by
        rcases h3.2.1 with h4 | h4
        · exfalso
          by_cases hif : i = fin
          · have := waits_listed hc' m fin hw (.inr (hif ▸ hr'))
            exact hiun hr' this
          · rw [Array.setIfInBounds_comm _ _ (Ne.symm hji), getD_set_ne false hif] at h4
            exact hnf h4
        · exact h4
      refine ⟨.inr hS', ih (listed.setIfInBounds j true) a' w' hc' hfree' hr' h3.1 hS' ?_⟩
      rw [Array.setIfInBounds_comm _ _ hji]
      exact h3.2.2

/-- The given order is one that may be walked; what is taken early comes before fin. -/
def permF (ops : Array Oper) (fin : Nat) : List Nat → Array Bool → Bool
  | [], listed => (Region.ready .any ops listed).isEmpty
  | i :: rest, listed => (match ops[i]? with
      | none => false
      | some o => decide (i < listed.size) && if effB o then Region.ready .any ops listed == [i] else Region.free .any ops listed i && (Region.ready .any ops listed).contains i && waitsB ops ops.size i fin) && permF ops fin rest (listed.setIfInBounds i true)
def wpMixF (P : Program) (ops : Array Oper) (Q : Exit → Act → World → Prop) (S : World → Prop) (fin : Nat) : List Nat → Act → World → Prop
  | [], a, w => Q .normal a w
  | i :: rest, a, w => match ops[i]? with
    | none => False
    | some o => if effB o then wpOp P ops Q i (fun a' w' => (i = fin ∧ rest = [] ∨ S w') ∧ wpMixF P ops Q S fin rest a' w') a w else ∃ v, YieldsIf P ops S o v a ∧ S w ∧ wpMixF P ops Q S fin rest (a.put o.dst v) w

theorem wpAnyF_of_mix (hs : Region.noSelect ops = true) (hQ : ∀ (d : Option Tmp) (v : Value) c a w, Q (.panic c) (a.put d v) w → Q (.panic c) a w) :
    ∀ (perm : List Nat) (listed : Array Bool) (a : Act) (w : World), permF ops fin perm listed = true → Closed ops listed → wpMixF P ops Q S fin perm a w → wpAnyF P ops Q S fin perm.length listed a w
  | [], listed, a, w, hp, _, h => by
    simp only [permF, List.isEmpty_iff] at hp
    exact ⟨hp, h⟩
  | i :: rest, listed, a, w, hp, hc, h => by
    simp only [permF, Bool.and_eq_true] at hp
    obtain ⟨h1, h2⟩ := hp
    cases ho : ops[i]? with
    | none => simp [ho] at h1
    | some o =>
      simp only [ho, Bool.and_eq_true, decide_eq_true_eq] at h1
      obtain ⟨hsz, h1⟩ := h1
      simp only [wpMixF, ho] at h
      cases he : effB o with
      | true =>
        simp only [he, if_true, beq_iff_eq] at h1
        simp only [he, if_true] at h
        refine ⟨fun h0 => (by rw [h0] at h1; cases h1), fun j hj => ?_⟩
        have hj' := hj
        rw [h1] at hj
        simp only [List.mem_singleton] at hj
        subst hj
        refine wpOp_mono (fun a' w' hh => ⟨?_, wpAnyF_of_mix hs hQ rest _ a' w' h2 (closed_set hc hj') hh.2⟩) h
        rcases hh.1 with ⟨h3, _⟩ | h3
        · subst h3; exact .inl (by simp [hsz])
        · exact .inr h3
      | false =>
        simp only [he, Bool.false_eq_true, if_false, Bool.and_eq_true] at h1 h
        obtain ⟨v, hy, hS, h3⟩ := h
        have hr : i ∈ Region.ready .any ops listed := by simpa using h1.1.2
        exact wpAnyF_first ho (Region.noSelect_spec hs) (hQ o.dst v) h1.2 _ listed a w hc (Region.free_spec ho h1.1.1) hr hy hS (wpAnyF_of_mix hs hQ rest _ _ w h2 (closed_set hc hr) h3)

/-- THE BEGINNING. -/
theorem reg_fin {id : Nat} {a : Act} {w : World} {l : List Oper} (S : World → Prop) (fin : Nat) (perm : List Nat) (hm : P.follows .mixedOrders = true) (hs : Region.noSelect l.toArray = true) (hp : permF l.toArray fin perm (Array.replicate l.toArray.size false) = true) (hl : perm.length = l.toArray.size)
    (h : wpMixF P l.toArray (NoPanic Q) S fin perm a w.drew) : (Code.region id l.toArray true).wp P Q a w := by
  have hc : Closed l.toArray (Array.replicate l.toArray.size false) := fun k o _ hk => by
    exfalso
    rw [Array.getD_eq_getD_getElem?, Array.getElem?_replicate] at hk
    split at hk <;> cases hk
  have h2 := wpAnyF_of_mix hs (fun _ _ _ _ _ h => h) perm _ a _ hp hc h
  rw [hl] at h2
  exact wp_region_noPanic (wp_region_any hm (wpAny_of_F _ _ _ _ h2))

theorem fin_take {i : Nat} {d : Tmp} {rest : List Nat} {a : Act} {w : World} {o : Oper} {v : Value} (ho : ops[i]? = some o) (hod : o.dst = some d) (he : effB o = false) (hg : o.guard = none) (hS : S w)
    (hy : ∀ w, S w → (execOp a.eval o).run P w = .ok (.value v) w) (h : wpMixF P ops Q S fin rest { a with tmps := a.tmps.setIfInBounds d v } w) : wpMixF P ops Q S fin (i :: rest) a w := by
  simp only [wpMixF, ho, he, Bool.false_eq_true, if_false]
  exact ⟨v, .inl ⟨by simp [Region.wanted, hg], hy⟩, hS, by rw [put_some hod]; exact h⟩
theorem fin_do {i : Nat} {rest : List Nat} {a : Act} {w : World} {o : Oper} (ho : ops[i]? = some o) (he : effB o = true) (hg : o.guard = none)
    (h : ∀ K : Act → World → Prop, (∀ a' w', S w' → wpMixF P ops Q S fin rest a' w' → K a' w') → o.wp P a w K Q) : wpMixF P ops Q S fin (i :: rest) a w := by
  simp only [wpMixF, ho, he, if_true]
  unfold wpOp
  simp only [ho, Region.wanted, hg, if_true]
  exact .inl (h _ fun a' w' h1 h2 => ⟨.inr h1, h2⟩)
theorem fin_last {a : Act} {w : World} {o : Oper} (ho : ops[fin]? = some o) (he : effB o = true) (hg : o.guard = none)
    (h : ∀ K : Act → World → Prop, (∀ a' w', Q .normal a' w' → K a' w') → o.wp P a w K (NoPanic Q)) : wpMixF P ops (NoPanic Q) S fin [fin] a w := by
  simp only [wpMixF, ho, he, if_true]
  unfold wpOp
  simp only [ho, Region.wanted, hg, if_true]
  exact .inl (h _ fun a' w' h2 => ⟨.inl (by simp), h2⟩)
end

end Go.Proofs.YtbogljpafpkikaaGreatDoor

/-
  A region that draws its order (Reg2.lean) in which, behind what is taken early, two operations may come first: both orders are walked.
-/
namespace Go.Proofs.YtbogljpafpkikaaGreatDoor

section
variable {P : Program} {ops : Array Oper} {Q : Exit → Act → World → Prop} {S : World → Prop} {fin : Nat}

def permK (ops : Array Oper) (fin i j : Nat) (p1 p2 : List Nat) : List Nat → Array Bool → Bool
  | [], listed => Region.ready .any ops listed == [i, j] && decide (i < listed.size) && decide (j < listed.size) && permF ops fin p1 (listed.setIfInBounds i true) && permF ops fin p2 (listed.setIfInBounds j true) && p1.length == p2.length
  | k :: rest, listed => (match ops[k]? with
      | none => false
      | some o => decide (k < listed.size) && !effB o && Region.free .any ops listed k && (Region.ready .any ops listed).contains k && waitsB ops ops.size k fin) && permK ops fin i j p1 p2 rest (listed.setIfInBounds k true)
def wpFork (P : Program) (ops : Array Oper) (Q : Exit → Act → World → Prop) (S : World → Prop) (fin i j : Nat) (p1 p2 : List Nat) : List Nat → Act → World → Prop
  | [], a, w => wpOp P ops Q i (fun a' w' => S w' ∧ wpMixF P ops Q S fin p1 a' w') a w ∧ wpOp P ops Q j (fun a' w' => S w' ∧ wpMixF P ops Q S fin p2 a' w') a w
  | k :: rest, a, w => match ops[k]? with
    | none => False
    | some o => ∃ v, YieldsIf P ops S o v a ∧ S w ∧ wpFork P ops Q S fin i j p1 p2 rest (a.put o.dst v) w

theorem wpAnyF_of_fork {i j : Nat} {p1 p2 : List Nat} (hs : Region.noSelect ops = true) (hQ : ∀ (d : Option Tmp) (v : Value) c a w, Q (.panic c) (a.put d v) w → Q (.panic c) a w) :
    ∀ (pre : List Nat) (listed : Array Bool) (a : Act) (w : World), permK ops fin i j p1 p2 pre listed = true → Closed ops listed → wpFork P ops Q S fin i j p1 p2 pre a w → wpAnyF P ops Q S fin (p1.length + 1 + pre.length) listed a w
  | [], listed, a, w, hp, hc, h => by
    simp only [permK, Bool.and_eq_true, beq_iff_eq, decide_eq_true_eq] at hp
    obtain ⟨⟨⟨⟨⟨h1, h2⟩, h3⟩, h4⟩, h5⟩, h6⟩ := hp
    refine ⟨fun h0 => (by rw [h0] at h1; cases h1), fun r hr => ?_⟩
    have hr' := hr
    rw [h1] at hr
    simp only [List.mem_cons, List.not_mem_nil, or_false] at hr
    rcases hr with rfl | rfl
    · exact wpOp_mono (fun a' w' hh => ⟨.inr hh.1, wpAnyF_of_mix hs hQ p1 _ a' w' h4 (closed_set hc hr') hh.2⟩) h.1
    · refine wpOp_mono (fun a' w' hh => ⟨.inr hh.1, ?_⟩) h.2
      have := wpAnyF_of_mix hs hQ p2 _ a' w' h5 (closed_set hc hr') hh.2
      rw [← h6] at this
      exact this
  | k :: rest, listed, a, w, hp, hc, h => by
    simp only [permK, Bool.and_eq_true] at hp
    obtain ⟨h1, h2⟩ := hp
    cases ho : ops[k]? with
    | none => simp [ho] at h1
    | some o =>
      simp only [ho, Bool.and_eq_true, decide_eq_true_eq] at h1
      obtain ⟨⟨⟨⟨hsz, he⟩, hfr⟩, hrd⟩, hw⟩ := h1
      simp only [wpFork, ho] at h
      obtain ⟨v, hy, hS, h3⟩ := h
      have hr : k ∈ Region.ready .any ops listed := by simpa using hrd
      exact wpAnyF_first ho (Region.noSelect_spec hs) (hQ o.dst v) hw _ listed a w hc (Region.free_spec ho hfr) hr hy hS (wpAnyF_of_fork hs hQ rest _ _ w h2 (closed_set hc hr) h3)

/-- THE BEGINNING. -/
theorem reg_fork {id : Nat} {a : Act} {w : World} {l : List Oper} (S : World → Prop) (fin i j : Nat) (pre p1 p2 : List Nat) (hm : P.follows .mixedOrders = true) (hs : Region.noSelect l.toArray = true) (hp : permK l.toArray fin i j p1 p2 pre (Array.replicate l.toArray.size false) = true) (hl : p1.length + 1 + pre.length = l.toArray.size)
    (h : wpFork P l.toArray (NoPanic Q) S fin i j p1 p2 pre a w.drew) : (Code.region id l.toArray true).wp P Q a w := by
  have hc : Closed l.toArray (Array.replicate l.toArray.size false) := fun k o _ hk => by
    exfalso
    rw [Array.getD_eq_getD_getElem?, Array.getElem?_replicate] at hk
    split at hk <;> cases hk
  have h2 := wpAnyF_of_fork hs (fun _ _ _ _ _ h => h) pre _ a _ hp hc h
  rw [hl] at h2
  exact wp_region_noPanic (wp_region_any hm (wpAny_of_F _ _ _ _ h2))
theorem fork_take {i j k : Nat} {p1 p2 : List Nat} {d : Tmp} {rest : List Nat} {a : Act} {w : World} {o : Oper} {v : Value} (ho : ops[k]? = some o) (hod : o.dst = some d) (hg : o.guard = none) (hS : S w)
    (hy : ∀ w, S w → (execOp a.eval o).run P w = .ok (.value v) w) (h : wpFork P ops Q S fin i j p1 p2 rest { a with tmps := a.tmps.setIfInBounds d v } w) : wpFork P ops Q S fin i j p1 p2 (k :: rest) a w := by
  simp only [wpFork, ho]
  exact ⟨v, .inl ⟨by simp [Region.wanted, hg], hy⟩, hS, by rw [put_some hod]; exact h⟩
theorem fork_do {i : Nat} {p : List Nat} {a : Act} {w : World} {o : Oper} (ho : ops[i]? = some o) (hg : o.guard = none)
    (h : ∀ K : Act → World → Prop, (∀ a' w', S w' → wpMixF P ops Q S fin p a' w' → K a' w') → o.wp P a w K Q) : wpOp P ops Q i (fun a' w' => S w' ∧ wpMixF P ops Q S fin p a' w') a w := by
  unfold wpOp
  simp only [ho, Region.wanted, hg, if_true]
  exact .inl (h _ fun a' w' h1 h2 => ⟨h1, h2⟩)
end

end Go.Proofs.YtbogljpafpkikaaGreatDoor

/-
  A region that draws its order (Reg2.lean) whose effects float: a tree of orders, one or two effects first at each knot.
-/
namespace Go.Proofs.YtbogljpafpkikaaGreatDoor

inductive OrdT where
  | nil
  | take (i : Nat) (t : OrdT)
  | one (i : Nat) (t : OrdT)
  | two (i j : Nat) (t u : OrdT)
def OrdT.len : OrdT → Nat
  | .nil => 0
  | .take _ t => t.len + 1
  | .one _ t => t.len + 1
  | .two _ _ t _ => t.len + 1

section
variable {P : Program} {ops : Array Oper} {Q : Exit → Act → World → Prop} {S : World → Prop} {fin : Nat}

def permT (ops : Array Oper) (fin : Nat) : OrdT → Array Bool → Bool
  | .nil, l => (Region.ready .any ops l).isEmpty
  | .take i t, l => (match ops[i]? with
      | none => false
      | some _ => decide (i < l.size) && Region.free .any ops l i && (Region.ready .any ops l).contains i && waitsB ops ops.size i fin) && permT ops fin t (l.setIfInBounds i true)
  | .one i t, l => Region.ready .any ops l == [i] && decide (i < l.size) && permT ops fin t (l.setIfInBounds i true)
  | .two i j t u, l => Region.ready .any ops l == [i, j] && decide (i < l.size) && decide (j < l.size) && permT ops fin t (l.setIfInBounds i true) && permT ops fin u (l.setIfInBounds j true) && t.len == u.len
def wpTree (P : Program) (ops : Array Oper) (Q : Exit → Act → World → Prop) (S : World → Prop) (fin : Nat) : OrdT → Act → World → Prop
  | .nil, a, w => Q .normal a w
  | .take i t, a, w => match ops[i]? with
    | none => False
    | some o => ∃ v, YieldsIf P ops S o v a ∧ S w ∧ wpTree P ops Q S fin t (a.put o.dst v) w
  | .one i t, a, w => wpOp P ops Q i (fun a' w' => (i = fin ∨ S w') ∧ wpTree P ops Q S fin t a' w') a w
  | .two i j t u, a, w => wpOp P ops Q i (fun a' w' => (i = fin ∨ S w') ∧ wpTree P ops Q S fin t a' w') a w ∧ wpOp P ops Q j (fun a' w' => (j = fin ∨ S w') ∧ wpTree P ops Q S fin u a' w') a w

theorem wpAnyF_of_tree (hs : Region.noSelect ops = true) (hQ : ∀ (d : Option Tmp) (v : Value) c a w, Q (.panic c) (a.put d v) w → Q (.panic c) a w) :
    ∀ (t : OrdT) (l : Array Bool) (a : Act) (w : World), permT ops fin t l = true → Closed ops l → wpTree P ops Q S fin t a w → wpAnyF P ops Q S fin t.len l a w
  | .nil, l, a, w, hp, _, h => by
    simp only [permT, List.isEmpty_iff] at hp
    exact ⟨hp, h⟩
  | .take i t, l, a, w, hp, hc, h => by
    simp only [permT, Bool.and_eq_true] at hp
    obtain ⟨h1, h2⟩ := hp
    cases ho : ops[i]? with
    | none => simp [ho] at h1
    | some o =>
      simp only [ho, Bool.and_eq_true, decide_eq_true_eq] at h1
      obtain ⟨⟨⟨_, hfr⟩, hrd⟩, hw⟩ := h1
      simp only [wpTree, ho] at h
      obtain ⟨v, hy, hS, h3⟩ := h
      have hr : i ∈ Region.ready .any ops l := by simpa using hrd
      exact wpAnyF_first ho (Region.noSelect_spec hs) (hQ o.dst v) hw _ l a w hc (Region.free_spec ho hfr) hr hy hS (wpAnyF_of_tree hs hQ t _ _ w h2 (closed_set hc hr) h3)
  | .one i t, l, a, w, hp, hc, h => by
    simp only [permT, Bool.and_eq_true, beq_iff_eq, decide_eq_true_eq] at hp
    obtain ⟨⟨h1, h2⟩, h3⟩ := hp
    refine ⟨fun h0 => (by rw [h0] at h1; cases h1), fun j hj => ?_⟩
    have hj' := hj
    rw [h1] at hj
    simp only [List.mem_singleton] at hj
    subst hj
    refine wpOp_mono (fun a' w' hh => ⟨?_, wpAnyF_of_tree hs hQ t _ a' w' h3 (closed_set hc hj') hh.2⟩) h
    rcases hh.1 with h4 | h4
    · subst h4; exact .inl (by simp [h2])
    · exact .inr h4
  | .two i j t u, l, a, w, hp, hc, h => by
    simp only [permT, Bool.and_eq_true, beq_iff_eq, decide_eq_true_eq] at hp
    obtain ⟨⟨⟨⟨⟨h1, h2⟩, h3⟩, h4⟩, h5⟩, h6⟩ := hp
    refine ⟨fun h0 => (by rw [h0] at h1; cases h1), fun r hr => ?_⟩
    have hr' := hr
    rw [h1] at hr
    simp only [List.mem_cons, List.not_mem_nil, or_false] at hr
    rcases hr with rfl | rfl
    · refine wpOp_mono (fun a' w' hh => ⟨?_, wpAnyF_of_tree hs hQ t _ a' w' h4 (closed_set hc hr') hh.2⟩) h.1
      rcases hh.1 with h7 | h7
      · subst h7; exact .inl (by simp [h2])
      · exact .inr h7
    · refine wpOp_mono (fun a' w' hh => ⟨?_, ?_⟩) h.2
      · rcases hh.1 with h7 | h7
        · subst h7; exact .inl (by simp [h3])
        · exact .inr h7
      · have := wpAnyF_of_tree hs hQ u _ a' w' h5 (closed_set hc hr') hh.2
        rw [← h6] at this
        exact this

/-- THE BEGINNING. -/
theorem reg_tree {id : Nat} {a : Act} {w : World} {l : List Oper} (S : World → Prop) (fin : Nat) (t : OrdT) (hm : P.follows .mixedOrders = true) (hs : Region.noSelect l.toArray = true) (hp : permT l.toArray fin t (Array.replicate l.toArray.size false) = true) (hl : t.len = l.toArray.size)
    (h : wpTree P l.toArray (NoPanic Q) S fin t a w.drew) : (Code.region id l.toArray true).wp P Q a w := by
  have hc : Closed l.toArray (Array.replicate l.toArray.size false) := fun k o _ hk => by
    exfalso
    rw [Array.getD_eq_getD_getElem?, Array.getElem?_replicate] at hk
    split at hk <;> cases hk
  have h2 := wpAnyF_of_tree hs (fun _ _ _ _ _ h => h) t _ a _ hp hc h
  rw [hl] at h2
  exact wp_region_noPanic (wp_region_any hm (wpAny_of_F _ _ _ _ h2))
theorem tree_take {k : Nat} {d : Tmp} {t : OrdT} {a : Act} {w : World} {o : Oper} {v : Value} (ho : ops[k]? = some o) (hod : o.dst = some d) (hg : o.guard = none) (hS : S w)
    (hy : ∀ w, S w → (execOp a.eval o).run P w = .ok (.value v) w) (h : wpTree P ops Q S fin t { a with tmps := a.tmps.setIfInBounds d v } w) : wpTree P ops Q S fin (.take k t) a w := by
  simp only [wpTree, ho]
  exact ⟨v, .inl ⟨by simp [Region.wanted, hg], hy⟩, hS, by rw [put_some hod]; exact h⟩
theorem tree_op {i : Nat} {t : OrdT} {a : Act} {w : World} {o : Oper} (ho : ops[i]? = some o) (hg : o.guard = none)
    (h : ∀ K : Act → World → Prop, (∀ a' w', S w' → wpTree P ops Q S fin t a' w' → K a' w') → o.wp P a w K Q) : wpOp P ops Q i (fun a' w' => (i = fin ∨ S w') ∧ wpTree P ops Q S fin t a' w') a w := by
  unfold wpOp
  simp only [ho, Region.wanted, hg, if_true]
  exact .inl (h _ fun a' w' h1 h2 => ⟨.inr h1, h2⟩)
theorem tree_one {i : Nat} {t : OrdT} {a : Act} {w : World} {o : Oper} (ho : ops[i]? = some o) (hg : o.guard = none)
    (h : ∀ K : Act → World → Prop, (∀ a' w', S w' → wpTree P ops Q S fin t a' w' → K a' w') → o.wp P a w K Q) : wpTree P ops Q S fin (.one i t) a w := by
  simp only [wpTree]
  exact tree_op ho hg h
theorem tree_last {a : Act} {w : World} {o : Oper} (ho : ops[fin]? = some o) (hg : o.guard = none)
    (h : ∀ K : Act → World → Prop, (∀ a' w', Q .normal a' w' → K a' w') → o.wp P a w K Q) : wpTree P ops Q S fin (.one fin .nil) a w := by
  simp only [wpTree]
  unfold wpOp
  simp only [ho, Region.wanted, hg, if_true]
  exact .inl (h _ fun a' w' h2 => ⟨.inl trivial, h2⟩)
/-- What follows, once for all orders. -/
theorem wp_one {c : Code} {a : Act} {w : World} {A : Act} {W : World} (h : c.wp P (fun e a' w' => e = .normal ∧ a' = A ∧ w' = W) a w) (hq : Q .normal A W) : c.wp P Q a w :=
  Code.wp_mono (fun e a' w' he => by obtain ⟨rfl, rfl, rfl⟩ := he; exact hq) h
end

end Go.Proofs.YtbogljpafpkikaaGreatDoor

/-
  A region that draws its order (Reg2.lean) whose effects float: behind what is taken early, each effect is walked once, whatever is done already; its value and what is known of it stay under the other effects.
-/
namespace Go.Proofs.YtbogljpafpkikaaGreatDoor

theorem cnt_set : ∀ (l : List Bool) (i : Nat), l[i]? = some false → (l.set i true).countP (fun b => !b) + 1 = l.countP (fun b => !b)
  | [], i, h => by simp at h
  | false :: l, 0, _ => by simp
  | true :: l, 0, h => by simp at h
  | b :: l, i + 1, h => by
    have := cnt_set l i (by simpa using h)
    simp only [List.set_cons_succ, List.countP_cons]
    omega
theorem ready_false {ops : Array Oper} {l : Array Bool} {i : Nat} (h : i ∈ Region.ready .any ops l) : l.toList[i]? = some false ∧ l.getD i false = false := by
  have h1 := (mem_ready.1 h).1
  rcases Nat.lt_or_ge i l.size with h' | h'
  · simp [h'] at h1 ⊢; exact h1
  · simp [Array.getElem?_eq_none h'] at h1

def upG (g : Nat → Value) (i : Nat) (v : Value) : Nat → Value := fun j => if j = i then v else g j
theorem upG_self (g : Nat → Value) (i : Nat) (v : Value) : upG g i v i = v := by simp [upG]
theorem upG_ne (g : Nat → Value) {i j : Nat} (v : Value) (h : j ≠ i) : upG g i v j = g j := by simp [upG, h]

/-- The temporaries that the effects write: operation i writes d. -/
def putT (g : Nat → Value) : List (Nat × Nat) → Array Value → Array Value
  | [], t => t
  | (i, d) :: ds, t => putT g ds (t.setIfInBounds d (g i))
def putG (a : Act) (ds : List (Nat × Nat)) (g : Nat → Value) : Act := { a with tmps := putT g ds a.tmps }

section
variable {P : Program} {ops : Array Oper} {Q : Exit → Act → World → Prop} {S : World → Prop} {fin : Nat}

theorem wpAnyF_of_inv (J : Array Bool → Act → World → Prop)
    (hstep : ∀ l a w i, Closed ops l → i ∈ Region.ready .any ops l → J l a w → wpOp P ops Q i (fun a' w' => ((l.setIfInBounds i true).getD fin false = true ∨ S w') ∧ J (l.setIfInBounds i true) a' w') a w)
    (hend : ∀ l a w, Closed ops l → Region.ready .any ops l = [] → J l a w → Q .normal a w) :
    ∀ (fuel : Nat) (l : Array Bool) (a : Act) (w : World), Closed ops l → l.toList.countP (fun b => !b) ≤ fuel → J l a w → wpAnyF P ops Q S fin fuel l a w
  | 0, l, a, w, hc, hl, h => by
    have h0 : Region.ready .any ops l = [] := List.eq_nil_iff_forall_not_mem.2 fun i hi => by
      have := cnt_set _ _ (ready_false hi).1
      omega
    exact ⟨h0, hend l a w hc h0 h⟩
  | fuel + 1, l, a, w, hc, hl, h => ⟨fun h0 => hend l a w hc h0 h, fun i hi => wpOp_mono (fun a' w' hh => ⟨hh.1, wpAnyF_of_inv J hstep hend fuel _ a' w' (closed_set hc hi) (by
      have := cnt_set _ _ (ready_false hi).1
      rw [Array.toList_setIfInBounds]
      omega) hh.2⟩) (hstep l a w i hc hi h)⟩

/-- Each effect by itself. -/
def StepsE (P : Program) (ops : Array Oper) (Q : Exit → Act → World → Prop) (S : World → Prop) (A : (Nat → Value) → Act) (Pd : Nat → Value → World → Prop) : List (Nat × List Nat) → Prop
  | [] => True
  | (i, D) :: E => (∀ g w, S w → (∀ j ∈ D, Pd j (g j) w) → wpOp P ops Q i (fun a' w' => S w' ∧ ∃ v, a' = A (upG g i v) ∧ Pd i v w' ∧ ∀ j u, j ≠ i → Pd j u w → Pd j u w') (A g) w) ∧ StepsE P ops Q S A Pd E
theorem StepsE.get {A : (Nat → Value) → Act} {Pd : Nat → Value → World → Prop} : ∀ {E : List (Nat × List Nat)}, StepsE P ops Q S A Pd E → ∀ {i : Nat} {D : List Nat}, (i, D) ∈ E →
    ∀ g w, S w → (∀ j ∈ D, Pd j (g j) w) → wpOp P ops Q i (fun a' w' => S w' ∧ ∃ v, a' = A (upG g i v) ∧ Pd i v w' ∧ ∀ j u, j ≠ i → Pd j u w → Pd j u w') (A g) w
  | [], _, _, _, hm => by cases hm
  | (_, _) :: _, h, _, _, hm => by
    rcases List.mem_cons.1 hm with hm | hm
    · cases hm; exact h.1
    · exact StepsE.get h.2 hm

theorem putT_other {i : Nat} {v : Value} {g : Nat → Value} : ∀ {ds : List (Nat × Nat)} {t : Array Value}, i ∉ ds.map (·.1) → putT (upG g i v) ds t = putT g ds t
  | [], _, _ => rfl
  | (j, d) :: ds, t, h => by
    simp only [List.map_cons, List.mem_cons, not_or] at h
    simp only [putT]
    rw [upG_ne g v (fun e => h.1 e.symm), putT_other h.2]
theorem putT_self : ∀ (ds : List (Nat × Nat)) (t : Array Value), (ds.map (·.1)).Nodup → ∃ g, putT g ds t = t
  | [], t, _ => ⟨fun _ => undef, rfl⟩
  | (i, d) :: ds, t, h => by
    simp only [List.map_cons, List.nodup_cons] at h
    obtain ⟨g, hg⟩ := putT_self ds t h.2
    refine ⟨upG g i (t.getD d undef), ?_⟩
    have e : t.setIfInBounds d (t.getD d undef) = t := by
      by_cases hd : d < t.size
      · simp [hd, Array.setIfInBounds]
      · simp [Array.setIfInBounds, hd]
    simp only [putT, upG_self, e]
    rw [putT_other h.1, hg]

def permI (ops : Array Oper) (fin : Nat) (tk : List Nat) (E : List (Nat × List Nat)) : Bool :=
  ((List.range ops.size).all fun i => tk.contains i || (E.map (·.1)).contains i || i == fin)
    && ((List.range ops.size).all fun i => i == fin || waitsB ops ops.size i fin)
    && decide (fin < ops.size) && !tk.contains fin
    && ((List.range ops.size).all fun i => match ops[i]? with | none => false | some o => o.after.all fun e => !Region.binds .any e || decide (e.on < i))
    && (E.all fun x => !(x.1 == fin) && !tk.contains x.1 && decide (x.1 < ops.size) && x.2.all fun j => !tk.contains j && (match ops[x.1]? with | none => false | some o => o.after.any fun e => Region.binds .any e && e.on == j))

def InvR (P : Program) (ops : Array Oper) (Q : Exit → Act → World → Prop) (S : World → Prop) (fin : Nat) (E : List (Nat × List Nat)) (a : Act) (w : World) : Prop :=
  ∃ (A : (Nat → Value) → Act) (Pd : Nat → Value → World → Prop) (g0 : Nat → Value), a = A g0 ∧ S w ∧ StepsE P ops Q S A Pd E ∧ ∀ g w, S w → (∀ e ∈ E, Pd e.1 (g e.1) w) → wpOp P ops Q fin (fun a' w' => Q .normal a' w') (A g) w

theorem inv_start {E : List (Nat × List Nat)} {a : Act} {w : World} (ds : List (Nat × Nat)) (Pd : Nat → Value → World → Prop) (hn : (ds.map (·.1)).Nodup) (hS : S w) (h1 : StepsE P ops Q S (putG a ds) Pd E)
    (h2 : ∀ g w, S w → (∀ e ∈ E, Pd e.1 (g e.1) w) → wpOp P ops Q fin (fun a' w' => Q .normal a' w') (putG a ds g) w) : InvR P ops Q S fin E a w := by
  obtain ⟨g, hg⟩ := putT_self ds a.tmps hn
  exact ⟨putG a ds, Pd, g, by unfold putG; rw [hg], hS, h1, h2⟩

theorem wpAnyF_of_invR {tk : List Nat} {E : List (Nat × List Nat)} (hp : permI ops fin tk E = true) {fuel : Nat} {l : Array Bool} {a : Act} {w : World} (hc : Closed ops l) (hl : l.toList.countP (fun b => !b) ≤ fuel) (hz : l.size = ops.size)
    (htk : ∀ k, l.getD k false = true ↔ k ∈ tk) (h : InvR P ops Q S fin E a w) : wpAnyF P ops Q S fin fuel l a w := by
  simp only [permI, Bool.and_eq_true, decide_eq_true_eq, Bool.not_eq_true', List.all_eq_true, List.mem_range, Bool.or_eq_true, beq_iff_eq, beq_eq_false_iff_ne] at hp
  obtain ⟨⟨⟨⟨⟨hcov, hwt⟩, hf⟩, hft⟩, hlow⟩, hE⟩ := hp
  have hft : fin ∉ tk := by simpa using hft
  obtain ⟨A, Pd, g0, rfl, hS, hst, hfin⟩ := h
  have hdone : ∀ l : Array Bool, Closed ops l → (l.getD fin false = true ∨ fin ∈ Region.ready .any ops l) → ∀ i, i < ops.size → i ≠ fin → l.getD i false = true := fun l hc hl i hi hne =>
    waits_listed hc ops.size fin ((hwt i hi).resolve_left hne) hl
  refine wpAnyF_of_inv (fun l a w => l.size = ops.size ∧ (∀ k ∈ tk, l.getD k false = true) ∧ ((l.getD fin false = true ∧ Q .normal a w) ∨ (l.getD fin false = false ∧ ∃ g, a = A g ∧ S w ∧ ∀ i, i ∉ tk → l.getD i false = true → Pd i (g i) w))) ?_ ?_ fuel l _ w hc hl ⟨hz, fun k hk => (htk k).2 hk, .inr ⟨?_, g0, rfl, hS, fun i hi hh => absurd ((htk i).1 hh) hi⟩⟩
  · rintro l a w i hc hi ⟨hz, ht, h⟩
    have hun := (ready_false hi).2
    have hi' : i < ops.size := by
      rcases Nat.lt_or_ge i ops.size with h' | h'
      · exact h'
      · have := (ready_false hi).1
        rw [List.getElem?_eq_none (by simpa [hz] using h')] at this
        cases this
    have hset : (l.setIfInBounds i true).getD i false = true := by simp [hz, hi']
    rcases h with ⟨h1, _⟩ | ⟨h1, g, rfl, hS, hP⟩
    · exfalso
      by_cases hne : i = fin
      · subst hne; rw [h1] at hun; cases hun
      · have := hdone l hc (.inl h1) i hi' hne
        rw [this] at hun; cases hun
    · by_cases hne : i = fin
      · subst hne
        refine wpOp_mono (fun a' w' hq => ⟨.inl hset, by simpa using hz, fun k hk => getD_set_true (ht k hk), .inl ⟨hset, hq⟩⟩) (hfin g w hS fun e he => ?_)
        have he' := hE e he
        exact hP e.1 (by simpa using he'.1.1.2) (hdone l hc (.inr hi) e.1 he'.1.2 he'.1.1.1)
      · have hcv := hcov i hi'
        have hnt : i ∉ tk := fun hh => by rw [ht i hh] at hun; cases hun
        have hm : i ∈ E.map (·.1) := by
          rcases hcv with (h2 | h2) | h2
          · exact absurd (by simpa using h2) hnt
          · simpa using h2
          · exact absurd h2 hne
        obtain ⟨⟨i', D⟩, hmE, hii⟩ := List.mem_map.1 hm
        simp only at hii
        subst hii
        have he' := hE _ hmE
        simp only at he'
        have hD : ∀ j ∈ D, Pd j (g j) w := fun j hj => by
          obtain ⟨hj1, hj2⟩ := he'.2 j hj
          obtain ⟨_, o, ho, hall⟩ := mem_ready.1 hi
          rw [ho] at hj2
          simp only [Array.any_eq_true] at hj2
          obtain ⟨x, hx, hj2⟩ := hj2
          simp only [Bool.and_eq_true, beq_iff_eq] at hj2
          have h5 := hall _ (Array.getElem_mem hx) hj2.1
          rw [hj2.2] at h5
          exact hP j (by simpa using hj1) h5
        refine wpOp_mono ?_ (hst.get hmE g w hS hD)
        rintro a' w' ⟨hS', v, rfl, hv, hk⟩
        refine ⟨.inr hS', by simpa using hz, fun k hk => getD_set_true (ht k hk), .inr ⟨?_, upG g i' v, rfl, hS', fun j hj hjd => ?_⟩⟩
        · rw [getD_set_ne false (by simpa using he'.1.1.1)]; exact h1
        · by_cases hji : j = i'
          · subst hji; rw [upG_self]; exact hv
          · rw [upG_ne g v hji]
            rw [getD_set_ne false (Ne.symm hji)] at hjd
            exact hk j _ hji (hP j hj hjd)
  · rintro l a w hc h0 ⟨hz, ht, h⟩
    rcases h with ⟨_, h⟩ | ⟨h1, _⟩
    · exact h
    · exfalso
      -- the first that is not done is ready
      have hall : ∀ n, n < ops.size → l.getD n false = true := by
        intro n
        induction n using Nat.strongRecOn with
        | _ n ih =>
          intro hn
          cases hh : l.getD n false with
          | true => rfl
          | false =>
            exfalso
            have hlo := hlow n hn
            cases ho : ops[n]? with
            | none => simp [ho] at hlo
            | some o =>
              simp only [ho, Array.all_eq_true, Bool.or_eq_true, Bool.not_eq_true', decide_eq_true_eq] at hlo
              have hr : n ∈ Region.ready .any ops l := mem_ready.2 ⟨by
                have hz' : n < l.size := by omega
                simp [hz'] at hh ⊢; exact hh, o, ho, fun e he hb => by
                obtain ⟨x, hx, rfl⟩ := Array.mem_iff_getElem.1 he
                rcases hlo x hx with h2 | h2
                · rw [h2] at hb; cases hb
                · exact ih _ h2 (by omega)⟩
              rw [h0] at hr
              cases hr
      rw [hall fin hf] at h1
      cases h1
  · cases hh : l.getD fin false with
    | false => rfl
    | true => exact absurd ((htk fin).1 hh) hft
def setAll (l : Array Bool) : List Nat → Array Bool
  | [] => l
  | i :: tk => setAll (l.setIfInBounds i true) tk
def permTk (ops : Array Oper) (fin : Nat) : List Nat → Array Bool → Bool
  | [], _ => true
  | i :: t, l => (match ops[i]? with
      | none => false
      | some _ => decide (i < l.size) && Region.free .any ops l i && (Region.ready .any ops l).contains i && waitsB ops ops.size i fin) && permTk ops fin t (l.setIfInBounds i true)
def wpTk (P : Program) (ops : Array Oper) (S : World → Prop) (R : Act → World → Prop) : List Nat → Act → World → Prop
  | [], a, w => R a w
  | i :: t, a, w => match ops[i]? with
    | none => False
    | some o => ∃ v, YieldsIf P ops S o v a ∧ S w ∧ wpTk P ops S R t (a.put o.dst v) w
theorem wpAnyF_of_tk {R : Act → World → Prop} {m : Nat} (hs : Region.noSelect ops = true) (hQ : ∀ (d : Option Tmp) (v : Value) c a w, Q (.panic c) (a.put d v) w → Q (.panic c) a w) :
    ∀ (tk : List Nat) (l : Array Bool) (a : Act) (w : World), permTk ops fin tk l = true → Closed ops l → (∀ a w, Closed ops (setAll l tk) → R a w → wpAnyF P ops Q S fin m (setAll l tk) a w) → wpTk P ops S R tk a w → wpAnyF P ops Q S fin (m + tk.length) l a w
  | [], l, a, w, _, hc, hR, h => hR a w hc h
  | i :: t, l, a, w, hp, hc, hR, h => by
    simp only [permTk, Bool.and_eq_true] at hp
    obtain ⟨h1, h2⟩ := hp
    cases ho : ops[i]? with
    | none => simp [ho] at h1
    | some o =>
      simp only [ho, Bool.and_eq_true, decide_eq_true_eq] at h1
      obtain ⟨⟨⟨_, hfr⟩, hrd⟩, hw⟩ := h1
      simp only [wpTk, ho] at h
      obtain ⟨v, hy, hS, h3⟩ := h
      have hr : i ∈ Region.ready .any ops l := by simpa using hrd
      exact wpAnyF_first ho (Region.noSelect_spec hs) (hQ o.dst v) hw _ l a w hc (Region.free_spec ho hfr) hr hy hS (wpAnyF_of_tk hs hQ t _ _ w h2 (closed_set hc hr) hR h3)

def takenB (n : Nat) (tk : List Nat) : Bool := (List.range n).all fun k => (setAll (Array.replicate n false) tk).getD k false == tk.contains k
theorem setAll_size : ∀ (tk : List Nat) (l : Array Bool), (setAll l tk).size = l.size
  | [], _ => rfl
  | i :: tk, l => by rw [setAll, setAll_size tk]; simp
/-- THE BEGINNING. -/
theorem reg_inv {id : Nat} {a : Act} {w : World} {l : List Oper} (S : World → Prop) (fin : Nat) (tk : List Nat) (E : List (Nat × List Nat)) (hm : P.follows .mixedOrders = true) (hs : Region.noSelect l.toArray = true) (hp : permTk l.toArray fin tk (Array.replicate l.toArray.size false) = true) (hi : permI l.toArray fin tk E = true)
    (ht : (takenB l.toArray.size tk && (tk.all fun k => decide (k < l.toArray.size)) && decide ((setAll (Array.replicate l.toArray.size false) tk).toList.countP (fun b => !b) + tk.length = l.toArray.size)) = true)
    (h : wpTk P l.toArray S (InvR P l.toArray (NoPanic Q) S fin E) tk a w.drew) : (Code.region id l.toArray true).wp P Q a w := by
  simp only [Bool.and_eq_true, decide_eq_true_eq, takenB, List.all_eq_true, List.mem_range, beq_iff_eq] at ht
  obtain ⟨⟨ht1, ht2⟩, ht3⟩ := ht
  have hc : Closed l.toArray (Array.replicate l.toArray.size false) := fun k o _ hk => by
    exfalso
    rw [Array.getD_eq_getD_getElem?, Array.getElem?_replicate] at hk
    split at hk <;> cases hk
  have h2 := wpAnyF_of_tk (Q := NoPanic Q) (fin := fin) (m := (setAll (Array.replicate l.toArray.size false) tk).toList.countP (fun b => !b)) hs (fun _ _ _ _ _ h => h) tk _ a _ hp hc (fun a w hc' hR => wpAnyF_of_invR hi hc' (Nat.le_refl _) (by rw [setAll_size]; simp) (fun k => by
    by_cases hk : k < l.toArray.size
    · rw [ht1 k hk]; simp
    · constructor
      · intro hh
        rw [Array.getD_eq_getD_getElem?, Array.getElem?_eq_none (by rw [setAll_size]; simpa using hk)] at hh
        cases hh
      · intro hh; exact absurd (ht2 k hh) hk) hR) h
  rw [ht3] at h2
  exact wp_region_noPanic (wp_region_any hm (wpAny_of_F _ _ _ _ h2))
theorem tk_take {R : Act → World → Prop} {k : Nat} {d : Tmp} {t : List Nat} {a : Act} {w : World} {o : Oper} {v : Value} (ho : ops[k]? = some o) (hod : o.dst = some d) (hg : o.guard = none) (hS : S w)
    (hy : ∀ w, S w → (execOp a.eval o).run P w = .ok (.value v) w) (h : wpTk P ops S R t { a with tmps := a.tmps.setIfInBounds d v } w) : wpTk P ops S R (k :: t) a w := by
  simp only [wpTk, ho]
  exact ⟨v, .inl ⟨by simp [Region.wanted, hg], hy⟩, hS, by rw [put_some hod]; exact h⟩
theorem inv_op {i : Nat} {a : Act} {w : World} {o : Oper} {A : (Nat → Value) → Act} {Pd : Nat → Value → World → Prop} {g : Nat → Value} (ho : ops[i]? = some o) (hg : o.guard = none)
    (h : ∀ K : Act → World → Prop, (∀ v w', S w' → Pd i v w' → (∀ j u, j ≠ i → Pd j u w → Pd j u w') → K (A (upG g i v)) w') → o.wp P a w K Q) : wpOp P ops Q i (fun a' w' => S w' ∧ ∃ v, a' = A (upG g i v) ∧ Pd i v w' ∧ ∀ j u, j ≠ i → Pd j u w → Pd j u w') a w := by
  unfold wpOp
  simp only [ho, Region.wanted, hg, if_true]
  exact .inl (h _ fun v w' h1 h2 h3 => ⟨h1, v, rfl, h2, h3⟩)
theorem inv_fin {i : Nat} {a : Act} {w : World} {o : Oper} (ho : ops[i]? = some o) (hg : o.guard = none) (h : ∀ K : Act → World → Prop, (∀ a' w', Q .normal a' w' → K a' w') → o.wp P a w K Q) : wpOp P ops Q i (fun a' w' => Q .normal a' w') a w := by
  unfold wpOp
  simp only [ho, Region.wanted, hg, if_true]
  exact .inl (h _ fun _ _ h => h)
end

end Go.Proofs.YtbogljpafpkikaaGreatDoor
