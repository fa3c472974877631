/-
  statute: Uses.
-/
import Derived.Test.YtahfpadaoobkfaaGreatDoorQS17
namespace Go.Proofs.YtahfpadaoobkfaaGreatDoor
open Go.RowKit Go.Lib Go.Maps

/-- Two ascending rows of the call's own. -/
structure U2 (w : World) (v1 v2 : Value) (F C : List Int) (wr : World) : Prop where
  fr : Fr [] w wr
  r1 : wr.ownsRow 0 3 1 v1 F.length (intC F)
  r2 : wr.ownsRow 0 3 1 v2 C.length (intC C)
  n1 : ∀ g, v1.ownBlock = some g → w.heap.size ≤ g
  n2 : ∀ g, v2.ownBlock = some g → w.heap.size ≤ g
  ne : ∀ g, v1.ownBlock = some g → v2.ownBlock ≠ some g
  s1 : F.Pairwise (· < ·)
  s2 : C.Pairwise (· < ·)
theorem U2.start (w : World) : U2 w (.slice none 0 0) (.slice none 0 0) [] [] w := ⟨Fr.refl _ _, ⟨rfl, .inl ⟨rfl, rfl⟩⟩, ⟨rfl, .inl ⟨rfl, rfl⟩⟩, (fun g hg => by cases hg), (fun g hg => by cases hg), (fun g hg => by cases hg), List.Pairwise.nil, List.Pairwise.nil⟩
theorem U2.same {w wr w' : World} {v1 v2 : Value} {F C : List Int} (h : U2 w v1 v2 F C wr) (hf : Fr [] wr w') : U2 w v1 v2 F C w' :=
  ⟨h.fr.trans hf, ownsRow_keep h.r1 (fun g hg => hf.block g (ownsRow_lt h.r1 hg) (by simp)), ownsRow_keep h.r2 (fun g hg => hf.block g (ownsRow_lt h.r2 hg) (by simp)), h.n1, h.n2, h.ne, h.s1, h.s2⟩
/-- What Uses returns. -/
def Used (c : Rb) (q : Qn) (l : List Fd) (w : World) (e : Ending) (w' : World) : Prop :=
  Fr [] w w' ∧ ((usesB c q l = false ∧ e = .returned (.tuple #[.slice none 0 0, .slice none 0 0, .int .i64 80])) ∨
    (usesB c q l = true ∧ ∃ v1 v2, e = .returned (.tuple #[v1, v2, .int .i64 0]) ∧ U2 w v1 v2 (useF l) (useC c (clausesOf c q) l) w'))

def useC1 (c : Rb) (cs : List Int) (says : Int) (C : List Int) (j : Nat) : List Int := (cs.take j).foldl (fun a i => if (c.cl i).gives = says then insI a i else a) C
end Go.Proofs.YtahfpadaoobkfaaGreatDoor
