/-
  Regions that draw: an operation whose guard was not carried out either.
-/
import Derived.Test.YtbogljpafpkikaaGreatDoorQRg
import Derived.Test.YtbogljpafpkikaaGreatDoorQBa
namespace Go.Proofs.YtbogljpafpkikaaGreatDoor
theorem Fr.cel {fp : List Nat} {w W : World} {b i : Nat} {v : Value} (h : Fr fp w W) (hc : w.cell? ⟨b, i, none⟩ = some v) (hn : b ∉ fp) : W.cell? ⟨b, i, none⟩ = some v :=
  (World.cell?_of_block (h.block b (World.block_lt_of_cell? w _ hc) hn)).trans hc
section
variable {P : Program} {ops : Array Oper} {Q : Exit → Act → World → Prop} {S : World → Prop}
theorem wanted_undef {a : Act} {o : Oper} {j t : Nat} {want : Bool} (hg : o.guard = some (j, want)) (hd : (ops[j]?).bind (·.dst) = some t) (ht : a.tmps[t]? = some undef) : Region.wanted o (yielded ops a.tmps) = false := by
  simp only [Region.wanted, hg, yielded, hd, Option.bind_some, ht]
  rfl
theorem mix_skipU {i j t : Nat} {d : Tmp} {want : Bool} {rest : List Nat} {a : Act} {w : World} {o : Oper} (ho : ops[i]? = some o) (hod : o.dst = some d) (hg : o.guard = some (j, want)) (hd : (ops[j]?).bind (·.dst) = some t) (ht : a.tmps[t]? = some undef) (hS : S w) (h : wpMix P ops Q S rest { a with tmps := a.tmps.setIfInBounds d undef } w) : wpMix P ops Q S (i :: rest) a w :=
  mix_skip ho (wanted_undef hg hd ht) hS (by rw [put_some hod]; exact h)
end
end Go.Proofs.YtbogljpafpkikaaGreatDoor
