/-
  append, whatever the source: nil, empty, or elements that can be read.
-/
import Derived.Test.YtfidioedjmjddaaDkM
import Derived.Laws.OwnMore
import Derived.Maps.AppendAt
namespace Go.Proofs.Ytfidioedjmjddaa
open Go.RowKit Go.Lib

/-- The elements of a slice can be read: its cells are 'news'. -/
structure SrcAt (w : World) (sv : Value) (m : Nat) (news : List Value) : Prop where
  form : (sv = .slice none 0 0 ∧ m = 0 ∧ news = []) ∨ ∃ ad c, sv = .slice (some ad) m c ∧ ∀ j u, news[j]? = some u → w.cell? (ad.add j) = some u

theorem wp_append_src {P : Program} {w : World} {o : Oper} {a : Act} {K : Act → World → Prop} {Q : Exit → Act → World → Prop} (s x : Operand) (t e : TypeId) (z : Value) (size bytes : Nat)
    (ho : o.op = .call { callee := .builtin .append, args := #[s, x], argTypes := #[t, t] }) (ht : P.underlying t = some (.slice e)) (hinfo : (P.info? e).map (fun i => (i.zero, i.size, i.bytes)) = some (some z, size, bytes)) (hzs : z.cells.size = size) (hsz : 0 < size)
    (v : Value) (n : Nat) (xs : List Value) (hs : a.eval s = v) (hown : w.ownsRow 0 e size v n xs)
    (sv : Value) (m : Nat) (news : List Value) (hx : a.eval x = sv) (hsrc : SrcAt w sv m news) (hl : news.length = m * size) (h1 : ∀ u, u ∈ news → u.oneCell' = true)
    (h63 : n + m ≤ 9223372036854775807) (hbytes : (n + m) * bytes ≤ 140737488355328)
    (h : ∀ ga cap w', w'.ownsRow 0 e size (.slice ga (n + m) cap) (n + m) (xs ++ news) → Fr v.ownBlock.toList w w' → ((Value.slice ga (n + m) cap).ownBlock = v.ownBlock ∨ (Value.slice ga (n + m) cap).ownBlock = some w.heap.size) → K (a.put o.dst (.slice ga (n + m) cap)) w') : o.wp P a w K Q := by
  obtain ⟨i, hi, hz0, hz1, hz2⟩ := info_parts hinfo
  have key : ∃ ga cap w', (Builtin.append_ #[t, t] o.type #[v, sv]).run P w = .ok (.slice ga (n + m) cap) w' ∧ w'.ownsRow 0 e size (.slice ga (n + m) cap) (n + m) (xs ++ news) ∧ Fr v.ownBlock.toList w w' ∧ ((Value.slice ga (n + m) cap).ownBlock = v.ownBlock ∨ (Value.slice ga (n + m) cap).ownBlock = some w.heap.size) := by
    rcases hsrc.form with ⟨rfl, rfl, rfl⟩ | ⟨ad, c, rfl, hc⟩
    · have hrun := run_append_owned_none (P := P) (w := w) 0 t o.type e i size ht hi v n xs hown
      obtain ⟨ga, cap, rfl⟩ : ∃ ga cap, v = .slice ga n cap := by
        rcases hown.2 with ⟨rfl, rfl⟩ | ⟨g, cap, _, rfl, _⟩
        · exact ⟨_, _, rfl⟩
        · exact ⟨_, _, rfl⟩
      exact ⟨ga, cap, w, hrun, by simpa using hown, Fr.refl _ _, .inl rfl⟩
    · obtain ⟨v', w', hr, h2, h3, _, h5⟩ := run_append_own_at (P := P) w 0 t o.type e i z size bytes ht hi hz0 hz1 hz2 hzs hsz v n xs hown ad m c news hl hc h1 h63 hbytes (Nat.zero_le _)
      obtain ⟨ga, cap, rfl⟩ : ∃ ga cap, v' = .slice ga (n + m) cap := by
        rcases h2.2 with ⟨rfl, h0⟩ | ⟨g, cap, _, rfl, _⟩
        · exact ⟨none, 0, by rw [h0]⟩
        · exact ⟨_, _, rfl⟩
      exact ⟨ga, cap, w', hr, h2, Fr.grown h3 fun k hk => by simp [hk], h5⟩
  obtain ⟨ga, cap, w', hr, h2, h3, h4⟩ := key
  unfold Oper.wp execOp
  simp only [ho, resolve, invoke, builtin, Sem.run_bind, Sem.run_pure, Result.andThen_ok, List.map_toArray, List.map_cons, List.map_nil, hs, hx, hr]
  exact h ga cap w' h2 h3 h4

/-- A row that is owned can be read. -/
theorem srcAt_of_row {w : World} {e : TypeId} {size : Nat} {v : Value} {n : Nat} {xs : List Value} (h : w.ownsRow 0 e size v n xs) : SrcAt w v n xs := by
  refine ⟨?_⟩
  rcases h.2 with ⟨rfl, rfl⟩ | ⟨g, cap, cur, rfl, _, hg, _, _, hcs, ht⟩
  · exact .inl ⟨rfl, rfl, by have := h.1; simpa using this⟩
  · refine .inr ⟨⟨g, 0, none⟩, cap, rfl, fun j u hu => ?_⟩
    have hj : j < xs.length := (List.getElem?_eq_some_iff.1 hu).1
    refine World.news_of_block hg j u ?_
    have hlen : xs.length = n * size := h.1
    rw [← ht, List.getElem?_take_of_lt (by omega)] at hu
    exact hu
end Go.Proofs.Ytfidioedjmjddaa
