/-
  errors.Is of a sentinel and itself.
-/
import Derived.Test.YtklmefkbkphceaaDoorQJn2
import Derived.LaidEql
import Derived.Stop.Asserts
namespace Go.Proofs.YtklmefkbkphceaaDoor
open Go.RowKit Go.Lib

theorem reTypeOf_call (v : Value) (w : World) : (callFunc 55 #[.iface 155 v]).run Tryd.prog w = .ok (.value (.iface 112 (.agg #[.pointer (some ⟨5, 155, none⟩)]))) w := by kernel_rfl
theorem reComp_call (w : World) : (callFunc 110 #[.agg #[.pointer (some ⟨5, 155, none⟩)]]).run Tryd.prog w = .ok (.value (.bool true)) w := by kernel_rfl

set_option maxRecDepth 100000 in
set_option maxHeartbeats 4000000 in
theorem is_same (a : Addr) (w : World) : Calls Tryd.prog 39 #[.iface 155 (.pointer (some a)), .iface 155 (.pointer (some a))] w fun e w' => e = .returned (.bool true) ∧ w = w' := by
  have isComp : (Tryd.prog.info? 155).map (·.comparable) = some true := by kernel_rfl
  have isSize : (Tryd.prog.info? 177).map (·.size) = some 1 := by kernel_rfl
  obtain ⟨i, hi, hcmp⟩ := Option.map_eq_some_iff.1 isComp
  obtain ⟨j, hj, hjs⟩ := Option.map_eq_some_iff.1 isSize
  have heq := run_eql_iface_ptr_same (P := Tryd.prog) w a Tryd.underlying69 Tryd.underlying155 hi hcmp hj
  have hT := reTypeOf_call
  have hC := reComp_call
  go_enter Tryd.func39, Tryd.ntmps39
  go_wp2
  refine wp_loop_rounds 1 ?_
  rw [rounds_succ]
  go_wp2
  go_ret
  exact ⟨rfl, rfl⟩

end Go.Proofs.YtklmefkbkphceaaDoor
