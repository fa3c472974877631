/-
  Arrays of words in blocks, whole and by the cell; bytes in a slice.
-/
import Derived.Test.YtbogljpafpkikaaGreatDoorQDgM
import Derived.Test.YtbogljpafpkikaaGreatDoorQBa
import Derived.Test.YtbogljpafpkikaaGreatDoorQRg0
import Derived.Test.YtbogljpafpkikaaGreatDoorRows
import Derived.Test.YtbogljpafpkikaaGreatDoorQStB
import Derived.ProofKit
import Derived.Deep.WholeRow
namespace Go.Proofs.YtbogljpafpkikaaGreatDoor
open Go.RowKit Go.Lib

theorem stopD {p : Prop} (roundEnd : p) (_other : True) : p := roundEnd
abbrev u8C (l : List Int) : List Value := l.map (Value.int .u8)
abbrev ByAt (w : World) (v : Value) (l : List Int) : Prop := Sl w v l.length (u8C l)
/-- The cells of an array of words. -/
def u32A (l : List Int) : Array Value := (l.map (Value.int .u32)).toArray
theorem u32A_size (l : List Int) : (u32A l).size = l.length := by simp [u32A]
theorem u32A_get (l : List Int) (i : Nat) (h : i < l.length) : (u32A l)[i]? = some (.int .u32 (l.getD i 0)) := by simp [u32A, h]
theorem u32A_set (l : List Int) (i : Nat) (x : Int) : (u32A l).setIfInBounds i (.int .u32 x) = u32A (l.set i x) := by simp [u32A, List.map_set]
theorem u32A_one (l : List Int) : (u32A l).all (·.oneCell') = true := by simp [u32A, Value.oneCell']

section
variable {t : TypeId} {n : Nat} {e : TypeId} {l : List Int}
theorem arr_load {ev : Operand → Value} {o : Oper} {W : World} {b : Nat} {C : Array Value} (x : Operand) (hu : Tryz.prog.underlying t = some (.array n e)) (hi : (Tryz.prog.info? t).map (·.size) = some C.size) (ho : o.op = .load t x) (hx : ev x = .pointer (some ⟨b, 0, none⟩)) (h : W.heap[b]? = some (.cells C t (0, 0))) : (execOp ev o).run Tryz.prog W = .ok (.value (.agg C)) W := by
  unfold execOp
  simp only [ho, hx, Instr.loadAt, Instr.sureAddr, Sem.run_bind, Sem.run_pure, Result.andThen_ok, run_loadVar_row W b t t C (0, 0) _ h hu rfl hi]
theorem wp_arr_load {o : Oper} {a : Act} {W : World} {K : Act → World → Prop} {Q : Exit → Act → World → Prop} {b : Nat} {C : Array Value} (x : Operand) (hu : Tryz.prog.underlying t = some (.array n e)) (hi : (Tryz.prog.info? t).map (·.size) = some C.size) (ho : o.op = .load t x) (hx : a.eval x = .pointer (some ⟨b, 0, none⟩)) (h : W.heap[b]? = some (.cells C t (0, 0))) (hk : K (a.put o.dst (.agg C)) W) : o.wp Tryz.prog a W K Q := by
  unfold Oper.wp
  rw [arr_load x hu hi ho hx h]
  exact hk
theorem wp_arr_store {o : Oper} {a : Act} {W : World} {K : Act → World → Prop} {Q : Exit → Act → World → Prop} {b : Nat} {C C' : Array Value} (x y : Operand) (hi : (Tryz.prog.info? t).map (·.size) = some C'.size) (ho : o.op = .store t x y) (hx : a.eval x = .pointer (some ⟨b, 0, none⟩)) (hy : a.eval y = .agg C') (h : W.heap[b]? = some (.cells C t (0, 0))) (hs : C.size = C'.size) (h1 : C'.all (·.oneCell') = true)
    (hk : ∀ W', Fr [b] W W' → W'.heap[b]? = some (.cells C' t (0, 0)) → K (a.put o.dst undef) W') : o.wp Tryz.prog a W K Q :=
  wp_store_row t x y ho b C' hx hy t C h hi hs h1 (hk (W.setRow b C') (Fr.setRow (g := b) _ _ (by simp)) (by rw [setRow_heap _ _ _ _ _ _ h]))
end

end Go.Proofs.YtbogljpafpkikaaGreatDoor
