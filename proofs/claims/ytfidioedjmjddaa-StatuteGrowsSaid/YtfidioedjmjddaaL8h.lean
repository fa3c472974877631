/-
  dialtoneref08: BentProof.
-/
import Derived.Test.YtfidioedjmjddaaL8g
namespace Go.Proofs.Ytfidioedjmjddaa
open Go.RowKit Go.Lib

/-- What BentProof returns: some findings. -/
def BentP (w : World) (n : Nat) (e : Ending) (w' : World) : Prop := Fr [] w w' ∧ ∃ v' l', e = .returned v' ∧ FdAt w' v' l' ∧ l'.length ≤ n + 1

/-- The same, and they lie in a block of their own. -/
def BentQ (w : World) (n : Nat) (e : Ending) (w' : World) : Prop := Fr [] w w' ∧ ∃ v' l', e = .returned v' ∧ FdAt w' v' l' ∧ l'.length ≤ n + 1 ∧ ∀ g, v'.ownBlock = some g → w.heap.size ≤ g

theorem bentP_row {w W : World} {n : Nat} {v : Value} {l' : List Fd} (hF : Fr [] w W) (hr : FdRow W v l') (hl : l'.length ≤ n + 1) (hn : ∀ g, v.ownBlock = some g → w.heap.size ≤ g) : BentQ w n (.returned v) W := ⟨hF, v, l', rfl, fdAt_of_row hr, hl, hn⟩
theorem fdRow_set' {w : World} {g cap n : Nat} {l : List Fd} (h : FdRow w (.slice (some ⟨g, 0, none⟩) n cap) l) (hn : n = l.length) (k j : Nat) (x : Fd) (u : Value) (hk : k < l.length) (hj : j < 4) (hx : (fdC l[k]).set j u = fdC x) : FdRow (w.setCell ⟨g, k * 4 + j, none⟩ u) (.slice (some ⟨g, 0, none⟩) n cap) (l.set k x) := by
  subst hn
  exact fdRow_set h k j x u hk hj hx
theorem fdRow_put {w : World} {g cap : Nat} {l : List Fd} (h : FdRow w (.slice (some ⟨g, 0, none⟩) l.length cap) l) (k : Nat) (x : Fd) (hk : k < l.length) :
    FdRow ((((w.setCell ⟨g, k * 4, none⟩ (.int .i64 x.says)).setCell ⟨g, k * 4 + 1, none⟩ (.bool x.holds)).setCell ⟨g, k * 4 + 2, none⟩ (.int .i64 x.fact)).setCell ⟨g, k * 4 + 3, none⟩ (.int .i64 x.cl)) (.slice (some ⟨g, 0, none⟩) l.length cap) (l.set k x) := by
  have h0 := fdRow_set' h rfl k 0 ⟨x.says, l[k].holds, l[k].fact, l[k].cl⟩ (.int .i64 x.says) hk (by omega) rfl
  have h1 := fdRow_set' h0 (by simp) k 1 ⟨x.says, x.holds, l[k].fact, l[k].cl⟩ (.bool x.holds) (by simpa using hk) (by omega) (by rw [List.getElem_set_self]; rfl)
  have h2 := fdRow_set' h1 (by simp) k 2 ⟨x.says, x.holds, x.fact, l[k].cl⟩ (.int .i64 x.fact) (by simpa using hk) (by omega) (by rw [List.getElem_set_self]; rfl)
  have h3 := fdRow_set' h2 (by simp) k 3 x (.int .i64 x.cl) (by simpa using hk) (by omega) (by rw [List.getElem_set_self]; rfl)
  simp only [List.set_set, Nat.add_zero] at h3
  exact h3


end Go.Proofs.Ytfidioedjmjddaa
