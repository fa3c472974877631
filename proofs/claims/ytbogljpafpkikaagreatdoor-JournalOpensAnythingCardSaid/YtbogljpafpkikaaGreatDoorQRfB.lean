/-
  Ranges over a function: what a round keeps (all but one block).
-/
import Derived.RangeFuncNested
import Derived.RangeFuncBound
import Derived.RangeFuncCalls
import Derived.RangeFuncLeaves
import Derived.Shelf.Abstract
import Derived.Shelf.RegionOpen
import Derived.OwnWalkIn
import Derived.TacticsInMore
import Derived.LoopNIn
import Derived.LoopIn
import Derived.Test.YtbogljpafpkikaaGreatDoorQBa
namespace Go.Proofs.YtbogljpafpkikaaGreatDoor
open Go.RowKit Go.Shelf Go.Lib

/-- What a round keeps: what lies below n, but one block. -/
structure KpO (n bq : Nat) (A B : World) : Prop where
  os : B.os = A.os
  tape : B.tape = A.tape
  output : B.output = A.output
  size : A.heap.size ≤ B.heap.size
  block : ∀ k, k < n → k ≠ bq → B.heap[k]? = A.heap[k]?
theorem KpO.trans {n bq : Nat} {A B C : World} (h : KpO n bq A B) (k : KpO n bq B C) : KpO n bq A C := ⟨k.os.trans h.os, k.tape.trans h.tape, k.output.trans h.output, Nat.le_trans h.size k.size, fun i hi hn => (k.block i hi hn).trans (h.block i hi hn)⟩
theorem KpO.of {n bq : Nat} {A B : World} (h : Fr [bq] A B) (hn : n ≤ A.heap.size) : KpO n bq A B := ⟨h.os, h.tape, h.output, h.size, fun k hk hb => h.block k (Nat.lt_of_lt_of_le hk hn) (by simpa using hb)⟩
theorem KpO.fr {bq : Nat} {w A B : World} (h : Fr [bq] w A) (k : KpO w.heap.size bq A B) : Fr [bq] w B := ⟨k.os.trans h.os, k.tape.trans h.tape, k.output.trans h.output, Nat.le_trans h.size k.size, fun i hi hn => (k.block i hi (by simpa using hn)).trans (h.block i hi hn)⟩
theorem KpO.put {n bq : Nat} (W : World) (l : Nat) (o o' : Obj) (hn : n ≤ l) (h : W.heap[l]? = some o) : KpO n bq W (W.putObj l o') := by
  have hg := grownBy_putObj' W l o'
  have hl := (Array.getElem?_eq_some_iff.1 h).1
  exact ⟨hg.os, hg.tape, hg.output, hg.size, fun k hk _ => hg.block k (by omega) (fun e => by cases e; omega)⟩
theorem keepsFromO {B bP : Nat} {W W' : World} (hf : Fr [bP] W W') (hb : bP < B) : KeepsFrom B W W' := ⟨hf.size, fun k o hk hB _ => hf.keep hB (by simp; omega)⟩
theorem Fr.grownO {A B : World} (hf : Fr [] A B) : A.grownBy B none := ⟨hf.os, hf.tape, hf.output, hf.size, fun k hk _ => hf.block k hk (by simp)⟩

end Go.Proofs.YtbogljpafpkikaaGreatDoor
