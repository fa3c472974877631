/-
  dialtonelaw08: inserted, index; dialtoneref08: Has.
-/
import Derived.Test.YtfidioedjmjddaaL8j
namespace Go.Proofs.Ytfidioedjmjddaa
open Go.RowKit Go.Lib

/-- A row of integers that the call has made. -/
structure OI (w : World) (v : Value) (o : List Int) (wr : World) : Prop where
  fr : Fr [] w wr
  row : wr.ownsRow 0 3 1 v o.length (intC o)
  new : ∀ g, v.ownBlock = some g → w.heap.size ≤ g
theorem OI.start (w : World) : OI w (.slice none 0 0) [] w := ⟨Fr.refl _ _, ⟨rfl, .inl ⟨rfl, rfl⟩⟩, fun g hg => by cases hg⟩
theorem OI.same {w wr W : World} {v : Value} {o : List Int} (h : OI w v o wr) (hf : Fr [] wr W) : OI w v o W := ⟨h.fr.trans hf, row_fr h.row hf (by simp), h.new⟩
theorem wp_push_int {w wr : World} {o : Oper} {a : Act} {K : Act → World → Prop} {Q : Exit → Act → World → Prop} (s x : Operand) (ho : o.op = .call { callee := .builtin .append, args := #[s, x], argTypes := #[36, 36] }) (v : Value) (l : List Int) (X : Int) (H : OI w v l wr)
    (hs : a.eval s = v) (hx : a.eval x = .slice (some ⟨wr.heap.size, 0, none⟩) 1 1) (hl : l.length ≤ 1000000) (h : ∀ ga cap W', OI w (.slice ga (l.length + 1) cap) (l ++ [X]) W' → K (a.put o.dst (.slice ga (l.length + 1) cap)) W') : o.wp Try.prog a (wr.alloc (.cells #[.int .i64 X] 3)) K Q := by
  refine wp_append_src s x 36 3 (.int .i64 0) 1 8 ho Try.underlying36 infoI8 rfl (by decide) v l.length (intC l) hs (H.same (Fr.alloc _ _ _)).row _ 1 [.int .i64 X] hx (srcAt_one wr (.int .i64 X) 3) rfl (by simp [Value.oneCell']) (by omega) (by omega) ?_
  intro ga cap W1 r1 f1 b1
  refine h ga cap W1 ⟨(H.fr.trans (Fr.alloc _ _ _)).step f1 (fun i hi => .inr (H.new i (by simpa using hi))), ?_, ?_⟩
  · have e : intC (l ++ [X]) = intC l ++ [.int .i64 X] := by simp [intC]
    rw [e, List.length_append]
    exact r1
  · exact new_ge b1 (by have := H.fr.size; simp; omega) H.new

/-- l' is l with n, ascending. -/
structure InsI (l : List Int) (n : Int) (l' : List Int) : Prop where
  asc : l'.Pairwise (· < ·)
  mem : ∀ m, m ∈ l' ↔ m ∈ l ∨ m = n
  len : l'.length ≤ l.length + 1
/-- inserted under way. -/
structure InsS (l : List Int) (n : Int) (k : Nat) (put : Bool) (o : List Int) : Prop where
  len : o.length ≤ k + 1
  no : put = false → o = l.take k ∧ ∀ x, x ∈ l.take k → x < n
  yes : put = true → o.Pairwise (· < ·) ∧ (∀ m, m ∈ o ↔ m ∈ l.take k ∨ m = n) ∧ ∀ x, x ∈ o → ∀ y, y ∈ l.drop k → x < y
theorem InsS.start (l : List Int) (n : Int) : InsS l n 0 false [] := ⟨by simp, fun _ => ⟨by simp, by simp⟩, fun h => by cases h⟩
theorem take_succ' {l : List Int} {k : Nat} (hk : k < l.length) : l.take (k + 1) = l.take k ++ [l[k]] := List.take_succ_eq_append_getElem hk
theorem drop_lt {l : List Int} (ha : l.Pairwise (· < ·)) {k : Nat} (hk : k < l.length) : ∀ y, y ∈ l.drop (k + 1) → l[k] < y := by
  have h1 : l.drop k = l[k] :: l.drop (k + 1) := List.drop_eq_getElem_cons hk
  have h2 := ha.sublist (List.drop_sublist k l)
  rw [h1, List.pairwise_cons] at h2
  exact h2.1
/-- The element comes behind. -/
theorem InsS.next {l : List Int} {n : Int} {k : Nat} {put : Bool} {o : List Int} (h : InsS l n k put o) (ha : l.Pairwise (· < ·)) (hk : k < l.length) (hp : put = false → l[k] < n) : InsS l n (k + 1) put (o ++ [l[k]]) := by
  refine ⟨by have := h.len; simp; omega, fun hf => ?_, fun ht => ?_⟩
  · obtain ⟨h1, h2⟩ := h.no hf
    refine ⟨by rw [h1, take_succ' hk], fun x hx => ?_⟩
    rw [take_succ' hk] at hx
    rcases List.mem_append.1 hx with hx | hx
    · exact h2 x hx
    · simp only [List.mem_singleton] at hx; subst hx; exact hp hf
  · obtain ⟨h1, h2, h3⟩ := h.yes ht
    have hdr : l.drop k = l[k] :: l.drop (k + 1) := List.drop_eq_getElem_cons hk
    have hin : l[k] ∈ l.drop k := hdr ▸ List.mem_cons_self
    refine ⟨List.pairwise_append.2 ⟨h1, List.pairwise_singleton _ _, fun x hx y hy => by simp only [List.mem_singleton] at hy; subst hy; exact h3 x hx _ hin⟩, fun m => ?_, fun x hx y hy => ?_⟩
    · rw [take_succ' hk]
      simp only [List.mem_append, List.mem_singleton, h2 m]
      constructor
      · rintro ((h | h) | h)
        · exact .inl (.inl h)
        · exact .inr h
        · exact .inl (.inr h)
      · rintro ((h | h) | h)
        · exact .inl (.inl h)
        · exact .inr h
        · exact .inl (.inr h)
    · rcases List.mem_append.1 hx with hx | hx
      · exact h3 x hx y (hdr ▸ List.mem_cons_of_mem _ hy)
      · simp only [List.mem_singleton] at hx; subst hx; exact drop_lt ha hk y hy
/-- n comes, and the element behind it. -/
theorem InsS.both {l : List Int} {n : Int} {k : Nat} {o : List Int} (h : InsS l n k false o) (ha : l.Pairwise (· < ·)) (hk : k < l.length) (hn : n < l[k]) : InsS l n (k + 1) true (o ++ [n] ++ [l[k]]) := by
  obtain ⟨rfl, h2⟩ := h.no rfl
  have hlen : (l.take k).length = k := by simp; omega
  refine ⟨by simp; omega, (fun hf => by cases hf), fun _ => ⟨?_, fun m => ?_, fun x hx y hy => ?_⟩⟩
  · have h3 : (l.take k).Pairwise (· < ·) := ha.sublist (List.take_sublist k l)
    refine List.pairwise_append.2 ⟨List.pairwise_append.2 ⟨h3, List.pairwise_singleton _ _, fun x hx y hy => by simp only [List.mem_singleton] at hy; subst hy; exact h2 x hx⟩, List.pairwise_singleton _ _, fun x hx y hy => ?_⟩
    simp only [List.mem_singleton] at hy
    subst hy
    rcases List.mem_append.1 hx with hx | hx
    · have := h2 x hx; omega
    · simp only [List.mem_singleton] at hx; omega
  · rw [take_succ' hk]
    simp only [List.mem_append, List.mem_singleton]
    constructor
    · rintro ((h | h) | h)
      · exact .inl (.inl h)
      · exact .inr h
      · exact .inl (.inr h)
    · rintro ((h | h) | h)
      · exact .inl (.inl h)
      · exact .inr h
      · exact .inl (.inr h)
  · have hy' := drop_lt ha hk y hy
    rcases List.mem_append.1 hx with hx | hx
    · rcases List.mem_append.1 hx with hx | hx
      · have := h2 x hx; omega
      · simp only [List.mem_singleton] at hx; omega
    · simp only [List.mem_singleton] at hx; omega
theorem InsS.doneT {l : List Int} {n : Int} {o : List Int} (h : InsS l n l.length true o) : InsI l n o := by
  obtain ⟨h1, h2, _⟩ := h.yes rfl
  rw [List.take_length] at h2
  exact ⟨h1, h2, h.len⟩
theorem InsS.doneF {l : List Int} {n : Int} {o : List Int} (h : InsS l n l.length false o) (ha : l.Pairwise (· < ·)) : InsI l n (o ++ [n]) := by
  obtain ⟨h1, h2⟩ := h.no rfl
  rw [List.take_length] at h1 h2
  subst h1
  exact ⟨List.pairwise_append.2 ⟨ha, List.pairwise_singleton _ _, fun x hx y hy => by simp only [List.mem_singleton] at hy; subst hy; exact h2 x hx⟩, by simp, by simp⟩

/-- What inserted returns. -/
def Inserted (v : Value) (l : List Int) (n : Int) (w : World) (e : Ending) (w' : World) : Prop := Fr [] w w' ∧ ∃ v' l', e = .returned v' ∧ IntsR w' v' l' ∧ InsI l n l' ∧ ∀ g, v'.ownBlock = some g → (v.ownBlock = some g ∨ w.heap.size ≤ g) ∧ g < w'.heap.size


def idxI (l : List Int) (n : Int) : Int := match l.findIdx? (· == n) with
  | some i => i
  | none => -1

end Go.Proofs.Ytfidioedjmjddaa
