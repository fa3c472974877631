/-
  Words moved within their block; bytes in a block; the bytes of a digest.
-/
import Derived.Test.YtbogljpafpkikaaGreatDoorQDgI
import Derived.Test.YtbogljpafpkikaaGreatDoorQDg2
import Derived.Test.YtbogljpafpkikaaGreatDoorQDgM2
import Derived.Laws.CopyRow
import Derived.Lib.SlBuf
namespace Go.Proofs.YtbogljpafpkikaaGreatDoor
open Go.RowKit Go.Lib

abbrev w8C (h : W8) : Array Value := u32A h.list
theorem w8C_lit (h : W8) : w8C h = #[.int .u32 h.a, .int .u32 h.b, .int .u32 h.c, .int .u32 h.d, .int .u32 h.e, .int .u32 h.f, .int .u32 h.g, .int .u32 h.h] := rfl

theorem wp_copy_sh {o : Oper} {a : Act} {w : World} {K : Act → World → Prop} {Q : Exit → Act → World → Prop} (d s : Operand) (t t' tt : TypeId) (ho : o.op = .call { callee := .builtin .copy, args := #[d, s], argTypes := #[t, t'] }) (hu : Tryz.prog.underlying t = some (.slice 106)) (B dc sc : Nat) (v : W8) (hd : a.eval d = .slice (some ⟨B, 1, none⟩) 7 dc) (hs : a.eval s = .slice (some ⟨B, 0, none⟩) 7 sc) (hg : w.heap[B]? = some (.cells (w8C v) tt (0, 0)))
    (h : ∀ w', Fr [B] w w' → w'.heap[B]? = some (.cells (w8C ⟨v.a, v.a, v.b, v.c, v.d, v.e, v.f, v.g⟩) tt (0, 0)) → K (a.put o.dst (.int .i64 7)) w') : o.wp Tryz.prog a w K Q := by
  have hrun := run_copy_row (P := Tryz.prog) w t t' o.type 106 B 1 7 dc ⟨B, 0, none⟩ 7 sc (w8C v) tt [.int .u32 v.a, .int .u32 v.b, .int .u32 v.c, .int .u32 v.d, .int .u32 v.e, .int .u32 v.f, .int .u32 v.g] hu (by kernel_rfl) hg rfl (fun j x hj => by
    have ha : (⟨B, 0, none⟩ : Addr).add j = ⟨B, j, none⟩ := by
      unfold Addr.add; split
      · rename_i h0; simp only [h0]
      · simp only [Nat.zero_add]
    rw [ha, cell_of_blk hg]
    match j, hj with
    | 0, hj => exact hj
    | 1, hj => exact hj
    | 2, hj => exact hj
    | 3, hj => exact hj
    | 4, hj => exact hj
    | 5, hj => exact hj
    | 6, hj => exact hj
    | n + 7, hj => simp at hj) (by simp [u32A, W8.list]) (by simp [Value.oneCell'])
  refine Lib.wp_copy_run w d s t t' ho _ _ hd hs hrun ?_
  exact h _ (Fr.setRow (g := B) _ _ (by simp)) (setRow_heap _ _ _ _ _ _ hg)

/-- The cells of an array of bytes. -/
def u8A (l : List Int) : Array Value := (u8C l).toArray
theorem u8A_size (l : List Int) : (u8A l).size = l.length := by simp [u8A]
theorem u8A_get (l : List Int) (i : Nat) (h : i < l.length) : (u8A l)[i]? = some (.int .u8 (l.getD i 0)) := by simp [u8A, h]
theorem u8A_set (l : List Int) (i : Nat) (x : Int) : (u8A l).setIfInBounds i (.int .u8 x) = u8A (l.set i x) := by simp [u8A, List.map_set]
theorem outL_get (v : W8) (i k : Nat) (hi : i < 8) (hk : k < 4) : (outL v).getD (4 * i + k) 0 = byteI (v.list.getD i 0 / 2 ^ (24 - 8 * k)) := by
  have h1 : i = 0 ∨ i = 1 ∨ i = 2 ∨ i = 3 ∨ i = 4 ∨ i = 5 ∨ i = 6 ∨ i = 7 := by omega
  have h2 : k = 0 ∨ k = 1 ∨ k = 2 ∨ k = 3 := by omega
  rcases h1 with rfl | rfl | rfl | rfl | rfl | rfl | rfl | rfl <;> rcases h2 with rfl | rfl | rfl | rfl <;> rfl
theorem outL_step (v : W8) (n : Nat) (x : Int) (hn : n < 32) (hx : (outL v).getD n 0 = x) : ((outL v).take n ++ List.replicate (32 - n) 0).set n x = (outL v).take (n + 1) ++ List.replicate (32 - (n + 1)) 0 := by
  have hl : ((outL v).take n).length = n := by rw [List.length_take, outL_len]; omega
  rw [set_at hl hn, List.take_succ_eq_append_getElem (by rw [outL_len]; exact hn), ← hx, List.getD_eq_getElem?_getD, List.getElem?_eq_getElem (by rw [outL_len]; exact hn), Option.getD_some]

end Go.Proofs.YtbogljpafpkikaaGreatDoor
