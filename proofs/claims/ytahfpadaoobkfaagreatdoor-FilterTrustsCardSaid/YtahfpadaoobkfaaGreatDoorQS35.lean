/-
  A filter that a call has made.
-/
import Derived.Test.YtahfpadaoobkfaaGreatDoorQS34
import Derived.Test.YtahfpadaoobkfaaGreatDoorQS27
import Derived.Test.YtahfpadaoobkfaaGreatDoorQS28
import Derived.Deep.CutBlock
import Derived.Deep.DeepCutAuto
namespace Go.Proofs.YtahfpadaoobkfaaGreatDoor
open Go.RowKit Go.Lib

abbrev CdRow (W : World) (v : Value) (l : List Cd) : Prop := W.ownsRow 0 62 4 v l.length (l.flatMap cdC)
/-- A filter's rules, in blocks of their own. -/
structure FlOwn (N : Nat) (W : World) (v : Value) (ys : List RuV) : Prop where
  row : W.ownsRow 0 66 2 v ys.length (ys.flatMap ruC)
  cds : ∀ y, y ∈ ys → CdRow W y.v y.x.cds
  newR : ∀ g, v.ownBlock = some g → N ≤ g
  newC : ∀ y, y ∈ ys → ∀ g, y.v.ownBlock = some g → N ≤ g
  apart : ys.Pairwise fun y z => ∀ g, y.v.ownBlock = some g → z.v.ownBlock ≠ some g
/-- What has been made is a good filter. -/
structure RusOk (ys : List RuV) : Prop where
  act : ∀ y, y ∈ ys → actB y.x.act = true
  cds : ∀ y, y ∈ ys → y.x.cds.length ≤ 4 ∧ ∀ x, x ∈ y.x.cds → cdB x = true ∧ CdOk x
end Go.Proofs.YtahfpadaoobkfaaGreatDoor

/-
  dialtoneref26: Made.
-/
namespace Go.Proofs.YtahfpadaoobkfaaGreatDoor
open Go.RowKit Go.Lib

/-- The filter under way, in its box. -/
structure MfS (w : World) (dfl : Int) (v : Value) (ys : List RuV) (W : World) : Prop where
  fr : Fr [] w W
  res : W.heap[w.heap.size]? = some (.cells #[.slice none 0 0, .int .i64 0] 69 (0, 0))
  box : W.heap[w.heap.size + 1]? = some (.cells #[v, .int .i64 dfl] 69 (0, 0))
  own : FlOwn w.heap.size W v ys
  ok : RusOk ys
/-- A rule under way, in its box. -/
structure MrS (w : World) (act : Int) (u : Value) (l : List Cd) (W : World) : Prop where
  fr : Fr [] w W
  box : W.heap[w.heap.size]? = some (.cells #[u, .int .i64 act] 66 (0, 0))
  row : CdRow W u l
  new : ∀ g, u.ownBlock = some g → w.heap.size ≤ g
  ok : ∀ x, x ∈ l → cdB x = true ∧ CdOk x
/-- The rule's box and the four integers of a condition, as they lie while a region draws. -/
structure MxS (B : Nat) (u : Value) (act : Int) (bx o : Nat) (x0 x1 x2 x3 : Int) (W : World) : Prop where
  box : W.heap[B]? = some (.cells #[u, .int .i64 act] 66 (0, 0))
  c0 : W.cell? ⟨bx, o, none⟩ = some (.int .i64 x0)
  c1 : W.cell? ⟨bx, o + 1, none⟩ = some (.int .i64 x1)
  c2 : W.cell? ⟨bx, o + 2, none⟩ = some (.int .i64 x2)
  c3 : W.cell? ⟨bx, o + 3, none⟩ = some (.int .i64 x3)
end Go.Proofs.YtahfpadaoobkfaaGreatDoor

/-
  dialtoneref26: Call.
-/
namespace Go.Proofs.YtahfpadaoobkfaaGreatDoor
open Go.RowKit Go.Lib

def callC (a b c d e : Int) : Ca := ⟨pickI a 10, 100 + pickI b 5, pickI c 100 + 3600 * pickI (c.tdiv 100) 48, pickI d 4, pickI e 6, false⟩
end Go.Proofs.YtahfpadaoobkfaaGreatDoor
