/-
  A region that draws its order, walked once, in an order that is given: operations that leave the world alone and yield one value in every world that meets S are taken as early as possible; where another one comes, it is the only one that may come.
-/
import Derived.OrdersHeld
import Derived.RegionTactic
import Derived.Deep.RegionHeld3
namespace Go.Proofs.Ytfidioedjmjddaa

section
variable {P : Program} {ops : Array Oper} {Q : Exit → Act → World → Prop} {S : World → Prop}

/-- Does the operation change the world, or may it? -/
def effB (o : Oper) : Bool := match o.op with
  | .move _ | .assign _ | .pick .. | .nilCheck _ | .binOp .. | .unOp .. | .fieldAddr .. | .field .. | .indexAddr .. | .index .. | .extract .. | .slice .. | .load .. | .build .. | .makeInterface .. => false
  | .call { callee := .builtin b, .. } => match b with | .len | .cap | .min | .max => false | _ => true
  | _ => true

/-- The given order is one that may be walked. -/
def permB (ops : Array Oper) : List Nat → Array Bool → Bool
  | [], listed => (Region.ready .any ops listed).isEmpty
  | i :: rest, listed => (match ops[i]? with
      | none => false
      | some o => if effB o then Region.ready .any ops listed == [i] else Region.free .any ops listed i && (Region.ready .any ops listed).contains i) && permB ops rest (listed.setIfInBounds i true)

/-- The walk along an order. -/
def wpMix (P : Program) (ops : Array Oper) (Q : Exit → Act → World → Prop) (S : World → Prop) : List Nat → Act → World → Prop
  | [], a, w => Q .normal a w
  | i :: rest, a, w => match ops[i]? with
    | none => False
    | some o => if effB o then wpOp P ops Q i (fun a' w' => S w' ∧ wpMix P ops Q S rest a' w') a w else ∃ v, YieldsIf P ops S o v a ∧ wpMix P ops Q S rest (a.put o.dst v) w

theorem wpAnyH_of_mix (hs : Region.noSelect ops = true) (hQ : ∀ (d : Option Tmp) (v : Value) c a w, Q (.panic c) (a.put d v) w → Q (.panic c) a w) :
    ∀ (perm : List Nat) (listed : Array Bool) (a : Act) (w : World), permB ops perm listed = true → S w → wpMix P ops Q S perm a w → wpAnyH P .any ops Q S perm.length listed a w
  | [], listed, a, w, hp, _, h => by
    simp only [permB, List.isEmpty_iff] at hp
    exact wpAnyH_done hp h 0
  | i :: rest, listed, a, w, hp, hS, h => by
    simp only [permB, Bool.and_eq_true] at hp
    obtain ⟨h1, h2⟩ := hp
    cases ho : ops[i]? with
    | none => simp [ho] at h1
    | some o =>
      simp only [ho] at h1
      simp only [wpMix, ho] at h
      cases he : effB o with
      | true =>
        simp only [he, if_true, beq_iff_eq] at h1
        simp only [he, if_true] at h
        refine wpAnyH_all h1 (by simp) fun j hj => ?_
        simp only [List.mem_singleton] at hj
        subst hj
        exact wpOp_mono (fun a' w' hh => ⟨hh.1, wpAnyH_of_mix hs hQ rest _ a' w' h2 hh.1 hh.2⟩) h
      | false =>
        simp only [he, Bool.false_eq_true, if_false, Bool.and_eq_true] at h1 h
        obtain ⟨v, hy, h3⟩ := h
        exact wpAnyH_take ho hs h1.1 h1.2 (hQ o.dst v) hy hS (wpAnyH_of_mix hs hQ rest _ _ w h2 hS h3)

/-- THE BEGINNING. -/
theorem reg_mix {id : Nat} {a : Act} {w : World} {l : List Oper} (S : World → Prop) (perm : List Nat) (hm : P.follows .mixedOrders = true) (hs : Region.noSelect l.toArray = true) (hp : permB l.toArray perm (Array.replicate l.toArray.size false) = true) (hl : perm.length = l.toArray.size) (hS : S w.drew)
    (h : wpMix P l.toArray (NoPanic Q) S perm a w.drew) : (Code.region id l.toArray true).wp P Q a w := by
  have h2 := wpAnyH_of_mix hs (fun _ _ _ _ _ h => h) perm _ a _ hp hS h
  rw [hl] at h2
  exact wp_region_noPanic (wp_region_held (S := S) hm h2)

theorem mix_take {i : Nat} {rest : List Nat} {a : Act} {w : World} {o : Oper} {v : Value} (ho : ops[i]? = some o) (he : effB o = false) (hy : YieldsIf P ops S o v a) (h : wpMix P ops Q S rest (a.put o.dst v) w) : wpMix P ops Q S (i :: rest) a w := by
  simp only [wpMix, ho, he, Bool.false_eq_true, if_false]
  exact ⟨v, hy, h⟩
theorem mix_do {i : Nat} {rest : List Nat} {a : Act} {w : World} {o : Oper} (ho : ops[i]? = some o) (he : effB o = true) (hw : Region.wanted o (yielded ops a.tmps) = true)
    (h : ∀ K : Act → World → Prop, (∀ a' w', S w' → wpMix P ops Q S rest a' w' → K a' w') → o.wp P a w K Q) : wpMix P ops Q S (i :: rest) a w := by
  simp only [wpMix, ho, he, if_true]
  unfold wpOp
  simp only [ho, hw, if_true]
  exact .inl (h _ fun a' w' h1 h2 => ⟨h1, h2⟩)
theorem mix_skip {i : Nat} {rest : List Nat} {a : Act} {w : World} {o : Oper} (ho : ops[i]? = some o) (hw : Region.wanted o (yielded ops a.tmps) = false) (hS : S w) (h : wpMix P ops Q S rest (a.put o.dst undef) w) : wpMix P ops Q S (i :: rest) a w := by
  cases he : effB o with
  | true =>
    simp only [wpMix, ho, he, if_true]
    unfold wpOp
    simp only [ho, hw, Bool.false_eq_true, if_false]
    exact ⟨hS, h⟩
  | false => exact mix_take ho he (.inr ⟨hw, rfl⟩) h
theorem wanted_of {a : Act} {o : Oper} {j t : Nat} {want b : Bool} (hg : o.guard = some (j, want)) (hd : (ops[j]?).bind (·.dst) = some t) (ht : a.tmps[t]? = some (.bool b)) : Region.wanted o (yielded ops a.tmps) = (b == want) := by
  simp only [Region.wanted, hg, yielded, hd, Option.bind_some, ht]
  rfl
theorem put_some {a : Act} {o : Oper} {d : Tmp} (h : o.dst = some d) (v : Value) : a.put o.dst v = { a with tmps := a.tmps.setIfInBounds d v } := by rw [h]; rfl
theorem mix_take1 {i : Nat} {d : Tmp} {rest : List Nat} {a : Act} {w : World} {o : Oper} {v : Value} (ho : ops[i]? = some o) (hod : o.dst = some d) (he : effB o = false) (hg : o.guard = none)
    (hy : ∀ w, S w → (execOp a.eval o).run P w = .ok (.value v) w) (h : wpMix P ops Q S rest { a with tmps := a.tmps.setIfInBounds d v } w) : wpMix P ops Q S (i :: rest) a w :=
  mix_take ho he (.inl ⟨by simp [Region.wanted, hg], hy⟩) (by rw [put_some hod]; exact h)
theorem mix_takeg {i j t : Nat} {want : Bool} {d : Tmp} {rest : List Nat} {a : Act} {w : World} {o : Oper} {v : Value} (ho : ops[i]? = some o) (hod : o.dst = some d) (he : effB o = false) (hg : o.guard = some (j, want)) (hd : (ops[j]?).bind (·.dst) = some t) (ht : a.tmps[t]? = some (.bool want))
    (hy : ∀ w, S w → (execOp a.eval o).run P w = .ok (.value v) w) (h : wpMix P ops Q S rest { a with tmps := a.tmps.setIfInBounds d v } w) : wpMix P ops Q S (i :: rest) a w :=
  mix_take ho he (.inl ⟨by rw [wanted_of hg hd ht]; simp, hy⟩) (by rw [put_some hod]; exact h)
theorem mix_dog {i j t : Nat} {want : Bool} {rest : List Nat} {a : Act} {w : World} {o : Oper} (ho : ops[i]? = some o) (he : effB o = true) (hg : o.guard = some (j, want)) (hd : (ops[j]?).bind (·.dst) = some t) (ht : a.tmps[t]? = some (.bool want))
    (h : ∀ K : Act → World → Prop, (∀ a' w', S w' → wpMix P ops Q S rest a' w' → K a' w') → o.wp P a w K Q) : wpMix P ops Q S (i :: rest) a w :=
  mix_do ho he (by rw [wanted_of hg hd ht]; simp) h
theorem mix_skipg {i j t : Nat} {want : Bool} {rest : List Nat} {a : Act} {w : World} {o : Oper} (ho : ops[i]? = some o) (hg : o.guard = some (j, want)) (hd : (ops[j]?).bind (·.dst) = some t) (ht : a.tmps[t]? = some (.bool (!want))) (hS : S w) (h : wpMix P ops Q S rest (a.put o.dst undef) w) : wpMix P ops Q S (i :: rest) a w :=
  mix_skip ho (by rw [wanted_of hg hd ht]; cases want <;> rfl) hS h
theorem mix_skipT {i j t : Nat} {d : Tmp} {rest : List Nat} {a : Act} {w : World} {o : Oper} (ho : ops[i]? = some o) (hod : o.dst = some d) (hg : o.guard = some (j, true)) (hd : (ops[j]?).bind (·.dst) = some t) (ht : a.tmps[t]? = some (.bool false)) (hS : S w) (h : wpMix P ops Q S rest { a with tmps := a.tmps.setIfInBounds d undef } w) : wpMix P ops Q S (i :: rest) a w := mix_skipg ho hg hd ht hS (by rw [put_some hod]; exact h)
theorem mix_skipF {i j t : Nat} {d : Tmp} {rest : List Nat} {a : Act} {w : World} {o : Oper} (ho : ops[i]? = some o) (hod : o.dst = some d) (hg : o.guard = some (j, false)) (hd : (ops[j]?).bind (·.dst) = some t) (ht : a.tmps[t]? = some (.bool true)) (hS : S w) (h : wpMix P ops Q S rest { a with tmps := a.tmps.setIfInBounds d undef } w) : wpMix P ops Q S (i :: rest) a w := mix_skipg ho hg hd ht hS (by rw [put_some hod]; exact h)
theorem mix_end {a : Act} {w : World} (h : Q .normal a w) : wpMix P ops (NoPanic Q) S [] a w := h
end

end Go.Proofs.Ytfidioedjmjddaa
