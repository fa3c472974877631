/-
  An element of an array that is a value.
-/
import Derived.Test.YtbogljpafpkikaaGreatDoorQDgA
namespace Go.Proofs.YtbogljpafpkikaaGreatDoor
open Go.RowKit Go.Lib

theorem arr_index {t : TypeId} {n : Nat} {W : World} {l : List Int} {k : Nat} (hu : Tryz.prog.underlying t = some (.array n 106)) (hn : l.length = n) (hk : k < n) : (Instr.index t (.agg (u32A l)) (.int .i64 k)).run Tryz.prog W = .ok (.int .u32 (l.getD k 0)) W := by
  have hz : (sizeOf 106).run Tryz.prog W = .ok 1 W := by kernel_rfl
  have hg : (isAgg 106).run Tryz.prog W = .ok false W := by kernel_rfl
  simp only [Instr.index, asIntOf, Sem.run_bind, Sem.run_pure, Result.andThen_ok, run_underlying hu, part]
  rw [if_pos (by omega)]
  simp only [Sem.run_bind, Result.andThen_ok, hz, hg, Int.toNat_natCast, Nat.mul_one, u32A_get l k (by omega), Sem.run_pure, Bool.false_eq_true, if_false]

end Go.Proofs.YtbogljpafpkikaaGreatDoor
