/-
  dialtoneref08: BentProof, Has; dialtonelaw08: index.
-/
import Derived.Test.YtfidioedjmjddaaL8f
import Derived.ArgAppend
namespace Go.Proofs.Ytfidioedjmjddaa
open Go.RowKit Go.Lib

/-- Findings that can be read. -/
structure FdAt (w : World) (v : Value) (l : List Fd) : Prop where
  sl : Sl w v l.length (l.flatMap fdC)
  src : SrcAt w v l.length (l.flatMap fdC)
theorem FdAt.same {w w' : World} {v : Value} {l : List Fd} (h : FdAt w v l) (hf : Fr [] w w') : FdAt w' v l := ⟨h.sl.same hf, h.src.same hf⟩
theorem fdAt_of_row {w : World} {v : Value} {l : List Fd} (h : FdRow w v l) : FdAt w v l := ⟨sl_of_row h, srcAt_of_row h⟩

/-- A cell of a row is written. -/
theorem row_set {w : World} {e : TypeId} {size g n cap : Nat} {xs : List Value} (h : w.ownsRow 0 e size (.slice (some ⟨g, 0, none⟩) n cap) n xs) (i : Nat) (u : Value) (_hi : i < xs.length) : (w.setCell ⟨g, i, none⟩ u).ownsRow 0 e size (.slice (some ⟨g, 0, none⟩) n cap) n (xs.set i u) := by
  obtain ⟨hl, h2⟩ := h
  refine ⟨by simpa using hl, ?_⟩
  rcases h2 with ⟨h0, _⟩ | ⟨g', cap', cur, hv, r0, hg, r1, r2, r3, r4⟩
  · cases h0
  · cases hv
    refine .inr ⟨g, cap, _, rfl, r0, heap_setCell_same u hg, r1, r2, by simpa using r3, ?_⟩
    rw [← r4, ← List.take_set]
    simp
theorem flat_set (l : List Fd) (k j : Nat) (x : Fd) (u : Value) (hk : k < l.length) (hj : j < 4) (hx : (fdC l[k]).set j u = fdC x) : (l.flatMap fdC).set (k * 4 + j) u = (l.set k x).flatMap fdC := by
  induction l generalizing k with
  | nil => simp at hk
  | cons y l ih =>
    cases k with
    | zero =>
      simp only [List.getElem_cons_zero] at hx
      simp only [List.flatMap_cons, List.set_cons_zero, Nat.zero_mul, Nat.zero_add]
      rw [List.set_append_left _ _ (by simpa [fdC] using hj), hx]
    | succ k =>
      simp only [List.getElem_cons_succ] at hx
      simp only [List.flatMap_cons, List.set_cons_succ]
      rw [List.set_append_right _ _ (by simp [fdC]; omega), ← ih k (by simpa using hk) hx]
      congr 2
      simp [fdC]; omega
theorem fdRow_set {w : World} {g cap : Nat} {l : List Fd} (h : FdRow w (.slice (some ⟨g, 0, none⟩) l.length cap) l) (k j : Nat) (x : Fd) (u : Value) (hk : k < l.length) (hj : j < 4) (hx : (fdC l[k]).set j u = fdC x) : FdRow (w.setCell ⟨g, k * 4 + j, none⟩ u) (.slice (some ⟨g, 0, none⟩) l.length cap) (l.set k x) := by
  have h1 := row_set h (k * 4 + j) u (by rw [fdC_len]; omega)
  rw [flat_set l k j x u hk hj hx] at h1
  unfold FdRow
  rw [List.length_set]
  exact h1
theorem fdRow_cells {w : World} {g cap : Nat} {l : List Fd} (h : FdRow w (.slice (some ⟨g, 0, none⟩) l.length cap) l) (k : Nat) (hk : k < l.length) : w.cell? ⟨g, k * 4, none⟩ = some (.int .i64 l[k].says) ∧ w.cell? ⟨g, k * 4 + 1, none⟩ = some (.bool l[k].holds) ∧ w.cell? ⟨g, k * 4 + 2, none⟩ = some (.int .i64 l[k].fact) ∧ w.cell? ⟨g, k * 4 + 3, none⟩ = some (.int .i64 l[k].cl) := by
  have hc := h.cells (g := g) rfl
  have key : ∀ j u, j < 4 → (fdC l[k])[j]? = some u → w.cell? ⟨g, k * 4 + j, none⟩ = some u := fun j u hj hu => by
    have := hc (k * 4 + j) u ((flat_get (enc := fdC) (k := 4) (fun _ => rfl) l k hk j hj).trans hu)
    rwa [addr_add, Nat.zero_add] at this
  exact ⟨key 0 _ (by omega) rfl, key 1 _ (by omega) rfl, key 2 _ (by omega) rfl, key 3 _ (by omega) rfl⟩
theorem fdRow_free {w : World} {g cap n : Nat} {l : List Fd} (h : w.ownsRow 0 58 4 (.slice (some ⟨g, 0, none⟩) n cap) n (l.flatMap fdC)) (i : Nat) : w.frozen? ⟨g, i, none⟩ = false := by
  rcases h.2 with ⟨h0, _⟩ | ⟨g', cap', cur, hv, r0, hg, _⟩
  · cases h0
  · cases hv; exact free_of_blk hg i

/-- append where there is no room. -/
theorem wp_append_grows {P : Program} {w : World} {o : Oper} {a : Act} {K : Act → World → Prop} {Q : Exit → Act → World → Prop} (s x : Operand) (t e : TypeId) (z : Value) (size bytes : Nat)
    (ho : o.op = .call { callee := .builtin .append, args := #[s, x], argTypes := #[t, t] }) (ht : P.underlying t = some (.slice e)) (hinfo : (P.info? e).map (fun i => (i.zero, i.size, i.bytes)) = some (some z, size, bytes)) (hzs : z.cells.size = size) (hsz : 0 < size)
    (b : Addr) (n cap : Nat) (olds : List Value) (hs : a.eval s = .slice (some b) n cap) (hlo : olds.length = n * size) (holds : ∀ j u, olds[j]? = some u → w.cell? (b.add j) = some u)
    (ad : Addr) (m c : Nat) (news : List Value) (hx : a.eval x = .slice (some ad) m c) (hn : news.length = m * size) (hc : ∀ j u, news[j]? = some u → w.cell? (ad.add j) = some u)
    (hfull : cap < n + m) (b1 : n + m ≤ 9223372036854775807) (b2 : (n + m) * bytes ≤ 140737488355328)
    (h : ∀ v' w', w'.ownsRow w.heap.size e size v' (n + m) (olds ++ news) → Fr [] w w' → K (a.put o.dst v') w') : o.wp P a w K Q := by
  obtain ⟨i, hi, hz0, hz1, hz2⟩ := info_parts hinfo
  obtain ⟨v', w', hrun, r1, r2⟩ := run_append_arg_grows (P := P) w t o.type e i z size bytes ht hi hz0 hz1 hz2 hzs hsz b n cap olds hlo holds ad m c news hn hc hfull b1 b2
  unfold Oper.wp execOp
  simp only [ho, resolve, invoke, builtin, Sem.run_bind, Sem.run_pure, Result.andThen_ok, List.map_toArray, List.map_cons, List.map_nil, hs, hx, hrun]
  exact h v' w' r1 (Fr.grown r2 fun k hk => by cases hk)
theorem row_base {w : World} {N : Nat} {e : TypeId} {size : Nat} {v : Value} {n : Nat} {xs : List Value} (h : w.ownsRow N e size v n xs) : w.ownsRow 0 e size v n xs := by
  refine ⟨h.1, ?_⟩
  rcases h.2 with h | ⟨g, cap, cur, h1, _, h2⟩
  · exact .inl h
  · exact .inr ⟨g, cap, cur, h1, Nat.zero_le _, h2⟩

end Go.Proofs.Ytfidioedjmjddaa
