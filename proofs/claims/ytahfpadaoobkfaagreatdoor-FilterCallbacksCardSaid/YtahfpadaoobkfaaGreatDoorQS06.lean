/-
  The plain model of a digest of a string: bytes as integers, the padding, the blocks (chapter 2).
-/
import Derived.Test.YtahfpadaoobkfaaGreatDoorQS01
import Derived.Test.YtahfpadaoobkfaaGreatDoorQS02
import Derived.Test.YtahfpadaoobkfaaGreatDoorQS03
import Derived.Test.YtahfpadaoobkfaaGreatDoorQS05
import Derived.Laws.CopyRow
import Derived.Lib.SlBuf
namespace Go.Proofs.YtahfpadaoobkfaaGreatDoor
open Go.RowKit Go.Lib

/-- Bytes as integers, and back. -/
def bI (l : List UInt8) : List Int := l.map fun b => (b.toNat : Int)
def toB (x : Int) : UInt8 := UInt8.ofNat x.toNat
def zN (n : Nat) : Nat := (119 - n % 64) % 64
def len8 (m : Int) : List Int := [byteI (m / 2 ^ 56), byteI (m / 2 ^ 48), byteI (m / 2 ^ 40), byteI (m / 2 ^ 32), byteI (m / 2 ^ 24), byteI (m / 2 ^ 16), byteI (m / 2 ^ 8), byteI (m / 2 ^ 0)]
def pad1 (l : List Int) : List Int := (l ++ [128]) ++ List.replicate (zN l.length) 0
def padL (l : List Int) : List Int := pad1 l ++ len8 (8 * (l.length : Int))
theorem pad1_len (l : List Int) : (pad1 l).length = l.length + 1 + zN l.length := by simp [pad1]; omega
theorem padL_len (l : List Int) : (padL l).length = l.length + 9 + zN l.length := by rw [padL, List.length_append, pad1_len]; simp [len8]; omega
theorem padL_mod (l : List Int) : (padL l).length % 64 = 0 := by rw [padL_len]; unfold zN; omega
def shaL (l : List Int) : List Int := outL (blocks (padL l) H0 ((padL l).length / 64))
def shaB (s : ByteArray) : ByteArray := ⟨((shaL (bI s.data.toList)).map toB).toArray⟩
theorem shaL_len (l : List Int) : (shaL l).length = 32 := outL_len _
theorem shaB_size (s : ByteArray) : (shaB s).size = 32 := by
  simp only [shaB, ByteArray.size, List.size_toArray, List.length_map, shaL_len]
theorem byteI_b (x : Int) : 0 ≤ byteI x ∧ byteI x < 256 := by rw [byteI, IntKind.wrap_u8]; omega
theorem outL_b (v : W8) : ∀ x, x ∈ outL v → 0 ≤ x ∧ x < 256 := by
  intro x hx
  simp only [outL, List.mem_flatMap, outB, List.mem_cons, List.not_mem_nil, or_false] at hx
  obtain ⟨y, _, h⟩ := hx
  rcases h with rfl | rfl | rfl | rfl <;> exact byteI_b _
theorem toB_nat {x : Int} (h : 0 ≤ x ∧ x < 256) : ((toB x).toNat : Int) = x := by
  simp only [toB, UInt8.toNat_ofNat']
  omega
theorem u8C_bytes {l : List Int} (h : ∀ x, x ∈ l → 0 ≤ x ∧ x < 256) : u8C l = byteCells (l.map toB) := by
  simp only [u8C, byteCells, List.map_map]
  refine List.map_congr_left fun x hx => ?_
  simp only [Function.comp, toB_nat (h x hx)]
theorem u8C_bI (l : List UInt8) : u8C (bI l) = byteCells l := by simp only [u8C, bI, byteCells, List.map_map]; rfl
theorem bI_len (l : List UInt8) : (bI l).length = l.length := by simp [bI]

end Go.Proofs.YtahfpadaoobkfaaGreatDoor

/-
  Words moved within their block; bytes in a block; the bytes of a digest.
-/
namespace Go.Proofs.YtahfpadaoobkfaaGreatDoor
open Go.RowKit Go.Lib

abbrev w8C (h : W8) : Array Value := u32A h.list
theorem w8C_lit (h : W8) : w8C h = #[.int .u32 h.a, .int .u32 h.b, .int .u32 h.c, .int .u32 h.d, .int .u32 h.e, .int .u32 h.f, .int .u32 h.g, .int .u32 h.h] := rfl

theorem wp_copy_sh {o : Oper} {a : Act} {w : World} {K : Act → World → Prop} {Q : Exit → Act → World → Prop} (d s : Operand) (t t' tt : TypeId) (ho : o.op = .call { callee := .builtin .copy, args := #[d, s], argTypes := #[t, t'] }) (hu : Tryz.prog.underlying t = some (.slice 225)) (B dc sc : Nat) (v : W8) (hd : a.eval d = .slice (some ⟨B, 1, none⟩) 7 dc) (hs : a.eval s = .slice (some ⟨B, 0, none⟩) 7 sc) (hg : w.heap[B]? = some (.cells (w8C v) tt (0, 0)))
    (h : ∀ w', Fr [B] w w' → w'.heap[B]? = some (.cells (w8C ⟨v.a, v.a, v.b, v.c, v.d, v.e, v.f, v.g⟩) tt (0, 0)) → K (a.put o.dst (.int .i64 7)) w') : o.wp Tryz.prog a w K Q := by
  have hrun := run_copy_row (P := Tryz.prog) w t t' o.type 225 B 1 7 dc ⟨B, 0, none⟩ 7 sc (w8C v) tt [.int .u32 v.a, .int .u32 v.b, .int .u32 v.c, .int .u32 v.d, .int .u32 v.e, .int .u32 v.f, .int .u32 v.g] hu (by kernel_rfl) hg rfl (fun j x hj => by
    have ha : (⟨B, 0, none⟩ : Addr).add j = ⟨B, j, none⟩ := by
      unfold Addr.add; split
      · rename_i h0; simp only [h0]
      · simp only [Nat.zero_add]
    rw [ha, cell_of_blk hg]
    match j, hj with
    | 0, hj => exact hj
    | 1, hj => exact hj
    | 2, hj => exact hj
    | 3, hj => exact hj
    | 4, hj => exact hj
    | 5, hj => exact hj
    | 6, hj => exact hj
    | n + 7, hj => simp at hj) (by simp [u32A, W8.list]) (by simp [Value.oneCell'])
  refine Lib.wp_copy_run w d s t t' ho _ _ hd hs hrun ?_
  exact h _ (Fr.setRow (g := B) _ _ (by simp)) (setRow_heap _ _ _ _ _ _ hg)

/-- The cells of an array of bytes. -/
def u8A (l : List Int) : Array Value := (u8C l).toArray
theorem u8A_get (l : List Int) (i : Nat) (h : i < l.length) : (u8A l)[i]? = some (.int .u8 (l.getD i 0)) := by simp [u8A, h]
theorem u8A_set (l : List Int) (i : Nat) (x : Int) : (u8A l).setIfInBounds i (.int .u8 x) = u8A (l.set i x) := by simp [u8A, List.map_set]
theorem outL_get (v : W8) (i k : Nat) (hi : i < 8) (hk : k < 4) : (outL v).getD (4 * i + k) 0 = byteI (v.list.getD i 0 / 2 ^ (24 - 8 * k)) := by
  have h1 : i = 0 ∨ i = 1 ∨ i = 2 ∨ i = 3 ∨ i = 4 ∨ i = 5 ∨ i = 6 ∨ i = 7 := by omega
  have h2 : k = 0 ∨ k = 1 ∨ k = 2 ∨ k = 3 := by omega
  rcases h1 with rfl | rfl | rfl | rfl | rfl | rfl | rfl | rfl <;> rcases h2 with rfl | rfl | rfl | rfl <;> rfl
theorem outL_step (v : W8) (n : Nat) (x : Int) (hn : n < 32) (hx : (outL v).getD n 0 = x) : ((outL v).take n ++ List.replicate (32 - n) 0).set n x = (outL v).take (n + 1) ++ List.replicate (32 - (n + 1)) 0 := by
  have hl : ((outL v).take n).length = n := by rw [List.length_take, outL_len]; omega
  rw [set_at hl hn, List.take_succ_eq_append_getElem (by rw [outL_len]; exact hn), ← hx, List.getD_eq_getElem?_getD, List.getElem?_eq_getElem (by rw [outL_len]; exact hn), Option.getD_some]

end Go.Proofs.YtahfpadaoobkfaaGreatDoor

/-
  digest: a block is added.
-/
namespace Go.Proofs.YtahfpadaoobkfaaGreatDoor
open Go.RowKit Go.Lib

/-- The words of which the first k are summed. -/
def part8 (h v : W8) (k : Nat) : List Int := (sum8 h v).list.take k ++ h.list.drop k
theorem part8_set (h v : W8) {k : Nat} (hk : k < 8) : (part8 h v k).set k (IntKind.u32.wrap (h.list.getD k 0 + v.list.getD k 0)) = part8 h v (k + 1) := by
  have h1 : k = 0 ∨ k = 1 ∨ k = 2 ∨ k = 3 ∨ k = 4 ∨ k = 5 ∨ k = 6 ∨ k = 7 := by omega
  rcases h1 with rfl | rfl | rfl | rfl | rfl | rfl | rfl | rfl <;> rfl
theorem part8_get (h v : W8) {k : Nat} (hk : k < 8) : (part8 h v k).getD k 0 = h.list.getD k 0 := by
  have h1 : k = 0 ∨ k = 1 ∨ k = 2 ∨ k = 3 ∨ k = 4 ∨ k = 5 ∨ k = 6 ∨ k = 7 := by omega
  rcases h1 with rfl | rfl | rfl | rfl | rfl | rfl | rfl | rfl <;> rfl
theorem rnd_a (v : W8) (y x : Int) : (v.h + mix v.e [6, 11, 25] + bits BinOp.xor IntKind.u32 (bits BinOp.and IntKind.u32 v.e v.f) (bits BinOp.and IntKind.u32 (bits BinOp.xor IntKind.u32 IntKind.u32.max v.e) v.g) + y + x + (mix v.a [2, 13, 22] + bits BinOp.xor IntKind.u32 (bits BinOp.xor IntKind.u32 (bits BinOp.and IntKind.u32 v.a v.b) (bits BinOp.and IntKind.u32 v.a v.c)) (bits BinOp.and IntKind.u32 v.b v.c))) % 4294967296 = (rnd v y x).a := by
  simp only [rnd, tOf, uOf, addI, xorI, andI, IntKind.wrap_u32]
  rw [show IntKind.u32.max = 4294967295 from rfl]
  omega
theorem rnd_e (v : W8) (y x : Int) : (v.d + (v.h + mix v.e [6, 11, 25] + bits BinOp.xor IntKind.u32 (bits BinOp.and IntKind.u32 v.e v.f) (bits BinOp.and IntKind.u32 (bits BinOp.xor IntKind.u32 IntKind.u32.max v.e) v.g) + y + x)) % 4294967296 = (rnd v y x).e := by
  simp only [rnd, tOf, addI, xorI, andI, IntKind.wrap_u32]
  rw [show IntKind.u32.max = 4294967295 from rfl]
  omega
theorem rnd_cells (v : W8) (y x A E : Int) (hA : A = (rnd v y x).a) (hE : E = (rnd v y x).e) : ((w8C ⟨v.a, v.a, v.b, v.c, v.d, v.e, v.f, v.g⟩).setIfInBounds 0 (.int .u32 A)).setIfInBounds 4 (.int .u32 E) = w8C (rnd v y x) := by
  subst hA hE
  rfl
/-- Hidden from 'contradiction', too, which looks through a definition. -/
structure Shut (p : Prop) : Prop where
  out : p
theorem part8_len (h v : W8) {k : Nat} (hk : k ≤ 8) : (part8 h v k).length = 8 := by
  simp only [part8, List.length_append, List.length_take, List.length_drop, W8.list_len]; omega

set_option maxRecDepth 1000000 in
set_option maxHeartbeats 4000000 in
theorem addW_c (hb : Nat) (v : Value) (l : List Int) (h : W8) (w : World) (hk : w.heap[hb]? = some (.cells (w8C h) 255 (0, 0))) (hv : ByAt w v l) (hl : l.length = 64) (hR : RndAt w) (_hg : hb ≠ 0) :
    Calls Tryz.prog 166 #[.pointer (some ⟨hb, 0, none⟩), v] w fun e w' => e = .returned (.tuple #[]) ∧ Fr [hb] w w' ∧ w'.heap[hb]? = some (.cells (w8C (addB h l)) 255 (0, 0)) := by
  obtain ⟨a, p, rfl⟩ := hv.val
  obtain ⟨s, hs⟩ : ∃ s, sch l 64 = s := ⟨_, rfl⟩
  have hsl : s.length = 64 := by rw [← hs]; exact sch_len _ _
  have CS0 := sched_c _ l w hv hl
  rw [hs] at CS0
  have CS := Lib.hid CS0
  have HS : Shut (sch l 64 = s) := ⟨hs⟩; have HSL := Lib.hid hsl
  clear CS0 hs hsl hl
  have HK := Lib.hid hk; have HR := Lib.hid hR
  clear hv hk hR
  go_enter Tryz.func166, Tryz.ntmps166
  go_wp2_with (first | ((with_reducible refine wpList_of_wp (o := ⟨some 14, _, _, _, _, _⟩) rfl (fun K hK => ?_)); apply stopD; case _other => exact trivial))
  (refine stopD ?_ ?_; rotate_left; exact trivial)
  go_simp
  refine CS.out.mono ?_
  rintro e w1 ⟨rfl, f1⟩
  refine hK _ _ (w64_alloc_store _ _ 4 _ s HSL.out rfl rfl rfl rfl rfl rfl (fun _ => rfl) (fun _ => rfl) ?_)
  clear hK K CS
  have hA := heap_alloc_new w1 (.cells (u32A s) 270)
  have F1 := Lib.hid (f1.trans (Fr.alloc [] w1 (.cells (u32A s) 270)))
  generalize w1.alloc (.cells (u32A s) 270) = W1 at *
  obtain ⟨B4, hB⟩ : ∃ B, B = w1.heap.size := ⟨_, rfl⟩
  have HB4 : Hid (w.heap.size ≤ B4) := Lib.hid (by rw [hB]; exact f1.size)
  rw [← hB] at hA ⊢
  have HA := Lib.hid hA
  clear hA hB f1
  have hk1 := F1.out.keep HK.out (by simp)
  have d0 : W1.cell? ⟨hb, 0, none⟩ = some (.int .u32 h.a) := cell_of_blk hk1 0
  have d1 : W1.cell? ⟨hb, 1, none⟩ = some (.int .u32 h.b) := cell_of_blk hk1 1
  have d2 : W1.cell? ⟨hb, 2, none⟩ = some (.int .u32 h.c) := cell_of_blk hk1 2
  have d3 : W1.cell? ⟨hb, 3, none⟩ = some (.int .u32 h.d) := cell_of_blk hk1 3
  have d4 : W1.cell? ⟨hb, 4, none⟩ = some (.int .u32 h.e) := cell_of_blk hk1 4
  have d5 : W1.cell? ⟨hb, 5, none⟩ = some (.int .u32 h.f) := cell_of_blk hk1 5
  have d6 : W1.cell? ⟨hb, 6, none⟩ = some (.int .u32 h.g) := cell_of_blk hk1 6
  have d7 : W1.cell? ⟨hb, 7, none⟩ = some (.int .u32 h.h) := cell_of_blk hk1 7
  clear hk1
  go_upto_region 2 with fail
  clear d0 d1 d2 d3 d4 d5 d6 d7
  change Code.wp _ _ _ _ (W1.alloc (.cells (w8C h) 255))
  have hA5 := heap_alloc_new W1 (.cells (w8C h) 255)
  have F2 := Lib.hid (F1.out.trans (Fr.alloc [] W1 (.cells (w8C h) 255)))
  have HA4 := Lib.hid ((Fr.alloc [] W1 (.cells (w8C h) 255)).keep HA.out (by simp))
  have hb4 := blk_lt HA.out
  generalize W1.alloc (.cells (w8C h) 255) = W2 at *
  obtain ⟨B5, hB⟩ : ∃ B, B = W1.heap.size := ⟨_, rfl⟩
  have HB5 : Hid (w.heap.size ≤ B5 ∧ B4 < B5) := Lib.hid (by rw [hB]; exact ⟨F1.out.size, hb4⟩)
  rw [← hB] at hA5 ⊢
  have HA5 := Lib.hid hA5
  have hkb := blk_lt HK.out
  have HKB := Lib.hid hkb
  clear hA5 hB hb4 F1 HA hkb
  obtain ⟨kt, hkt⟩ : ∃ kt, kTab = kt := ⟨_, rfl⟩
  have hktl : kt.length = 64 := by rw [← hkt]; rfl
  have ek : (Tryz.prog.info? 270).map (·.size) = some (u32A kt).size := by rw [u32A_size, hktl]; kernel_rfl
  have hr2 := HR.out.same F2.out (by simp)
  unfold RndAt at hr2
  rw [hkt] at hr2
  obtain ⟨gt, gz, hr3⟩ := hr2
  have HKT : Shut (kTab = kt) := ⟨hkt⟩; have HKL := Lib.hid hktl
  clear hkt hktl
  go_wp2_with (first | ((with_reducible refine wpList_of_wp (o := ⟨some 18, _, _, _, _, _⟩) rfl (fun K hK => ?_)); apply stopD; case _other => exact trivial))
  (refine stopD ?_ ?_; rotate_left; exact trivial)
  refine wp_arr_loadG (.global 0) Tryz.underlying270 ek rfl rfl hr3 ?_
  refine hK _ _ ?_
  clear hK K ek hr3
  go_wp2_with fail
  go_loopw [19] (fun i wr => ∃ k : Nat, k ≤ 64 ∧ i = .int .i64 k ∧ Hid (Fr [] w wr) ∧ Hid (wr.heap[B4]? = some (.cells (u32A s) 270 (0, 0))) ∧ Hid (wr.heap[B5]? = some (.cells (w8C (rnds s h k)) 255 (0, 0)))) (fun i _ => 64 - (RowKit.intOf i).toNat)
  case atStart => exact ⟨0, by omega, rfl, F2, HA4, HA5⟩
  case round =>
    obtain ⟨k, hk, rfl, H1, H4, H5⟩ := hrel
    by_cases hlt : k < 64
    · have HT : Shut (rnds s h (k + 1) = rnd (rnds s h k) (kt.getD k 0) (s.getD k 0)) := ⟨by rw [← HKT.out]; rfl⟩
      have s1 : wr.cell? ⟨B4, k, none⟩ = some (.int .u32 (s.getD k 0)) := by rw [cell_of_blk H4.out, u32A_get _ _ (by rw [HSL.out]; exact hlt)]
      generalize rnds s h k = v at *
      generalize s.getD k 0 = x at *
      have e0 : wr.cell? ⟨B5, 0, none⟩ = some (.int .u32 v.a) := cell_of_blk H5.out 0
      have e1 : wr.cell? ⟨B5, 1, none⟩ = some (.int .u32 v.b) := cell_of_blk H5.out 1
      have e2 : wr.cell? ⟨B5, 2, none⟩ = some (.int .u32 v.c) := cell_of_blk H5.out 2
      have e4 : wr.cell? ⟨B5, 4, none⟩ = some (.int .u32 v.e) := cell_of_blk H5.out 4
      have e5 : wr.cell? ⟨B5, 5, none⟩ = some (.int .u32 v.f) := cell_of_blk H5.out 5
      have e6 : wr.cell? ⟨B5, 6, none⟩ = some (.int .u32 v.g) := cell_of_blk H5.out 6
      have e7 : wr.cell? ⟨B5, 7, none⟩ = some (.int .u32 v.h) := cell_of_blk H5.out 7
      have i0 : ∀ W : World, (Instr.index 270 (.agg (u32A kt)) (.int .i64 k)).run Tryz.prog W = .ok (.int .u32 (kt.getD k 0)) W := fun W => arr_index Tryz.underlying270 HKL.out hlt
      generalize u32A kt = KA at *
      generalize kt.getD k 0 = y at *
      go_wp2_with fail
      -- @@22
      clear i0
      refine reg_tree (Fr [] wr) 5 (.take 0 (.take 1 (.take 2 (.take 3 (.take 4 (.one 5 .nil)))))) (by kernel_rfl) (by kernel_rfl) (by kernel_rfl) rfl ?_
      have S0 : Fr [] wr wr.drew := Fr.drew _ _
      generalize wr.drew = WC at S0 ⊢
      (refine tree_take (v := ?_) rfl rfl rfl S0 (fun w hS => ?_) ?_; rotate_left; (focus (clear hS; go_simp; rfl)); simp only [List.setIfInBounds_toArray, List.set_cons_succ, List.set_cons_zero])
      (refine tree_take (v := ?_) rfl rfl rfl S0 (fun w hS => ?_) ?_; rotate_left; (focus (have e0' := hS.cel e0 (by simp); clear hS; go_simp; rfl)); simp only [List.setIfInBounds_toArray, List.set_cons_succ, List.set_cons_zero])
      (refine tree_take (v := ?_) rfl rfl rfl S0 (fun w hS => ?_) ?_; rotate_left; (focus (clear hS; go_simp; rfl)); simp only [List.setIfInBounds_toArray, List.set_cons_succ, List.set_cons_zero])
      (refine tree_take (v := ?_) rfl rfl rfl S0 (fun w hS => ?_) ?_; rotate_left; (focus (have e4' := hS.cel e4 (by simp); clear hS; go_simp; rfl)); simp only [List.setIfInBounds_toArray, List.set_cons_succ, List.set_cons_zero])
      (refine tree_take (v := ?_) rfl rfl rfl S0 (fun w hS => ?_) ?_; rotate_left; (focus (clear hS; go_simp; rfl)); simp only [List.setIfInBounds_toArray, List.set_cons_succ, List.set_cons_zero])
      refine tree_last rfl rfl (fun K hK => ?_)
      go_simp
      try go_upon
      try go_simp
      refine hK _ _ ?_
      clear hK K
      refine noPanicN ?_
      go_wp2_with fail
      -- @@6
      refine reg_tree (Fr [] wr) 23 (.take 0 (.take 1 (.take 2 (.take 6 (.take 7 (.take 8 (.take 9 (.take 10 (.take 11 (.take 12 (.take 13 (.take 14 (.take 15 (.take 17 (.take 19 (.take 20 (.take 21 (.one 3 (.one 4 (.take 5 (.take 16 (.take 18 (.take 22 (.one 23 .nil)))))))))))))))))))))))) (by kernel_rfl) (by kernel_rfl) (by kernel_rfl) rfl ?_
      have S0 := S0.trans (Fr.drew [] WC)
      generalize WC.drew = WC at S0 ⊢
      (refine tree_take (v := ?_) rfl rfl rfl S0 (fun w hS => ?_) ?_; rotate_left; (focus (clear hS; go_simp; rfl)); simp only [List.setIfInBounds_toArray, List.set_cons_succ, List.set_cons_zero])
      (refine tree_take (v := ?_) rfl rfl rfl S0 (fun w hS => ?_) ?_; rotate_left; (focus (have e7' := hS.cel e7 (by simp); clear hS; go_simp; rfl)); simp only [List.setIfInBounds_toArray, List.set_cons_succ, List.set_cons_zero])
      (refine tree_take (v := ?_) rfl rfl rfl S0 (fun w hS => ?_) ?_; rotate_left; (focus (clear hS; go_simp; rfl)); simp only [List.setIfInBounds_toArray, List.set_cons_succ, List.set_cons_zero])
      (refine tree_take (v := ?_) rfl rfl rfl S0 (fun w hS => ?_) ?_; rotate_left; (focus (clear hS; go_simp; rfl)); simp only [List.setIfInBounds_toArray, List.set_cons_succ, List.set_cons_zero])
      (refine tree_take (v := ?_) rfl rfl rfl S0 (fun w hS => ?_) ?_; rotate_left; (focus (clear hS; go_simp; rfl)); simp only [List.setIfInBounds_toArray, List.set_cons_succ, List.set_cons_zero])
      (refine tree_take (v := ?_) rfl rfl rfl S0 (fun w hS => ?_) ?_; rotate_left; (focus (have e5' := hS.cel e5 (by simp); clear hS; go_simp; rfl)); simp only [List.setIfInBounds_toArray, List.set_cons_succ, List.set_cons_zero])
      (refine tree_take (v := ?_) rfl rfl rfl S0 (fun w hS => ?_) ?_; rotate_left; (focus (clear hS; go_simp; rfl)); simp only [List.setIfInBounds_toArray, List.set_cons_succ, List.set_cons_zero])
      (refine tree_take (v := ?_) rfl rfl rfl S0 (fun w hS => ?_) ?_; rotate_left; (focus (clear hS; go_simp; rfl)); simp only [List.setIfInBounds_toArray, List.set_cons_succ, List.set_cons_zero])
      (refine tree_take (v := ?_) rfl rfl rfl S0 (fun w hS => ?_) ?_; rotate_left; (focus (clear hS; go_simp; rfl)); simp only [List.setIfInBounds_toArray, List.set_cons_succ, List.set_cons_zero])
      (refine tree_take (v := ?_) rfl rfl rfl S0 (fun w hS => ?_) ?_; rotate_left; (focus (clear hS; go_simp; rfl)); simp only [List.setIfInBounds_toArray, List.set_cons_succ, List.set_cons_zero])
      (refine tree_take (v := ?_) rfl rfl rfl S0 (fun w hS => ?_) ?_; rotate_left; (focus (have e6' := hS.cel e6 (by simp); clear hS; go_simp; rfl)); simp only [List.setIfInBounds_toArray, List.set_cons_succ, List.set_cons_zero])
      (refine tree_take (v := ?_) rfl rfl rfl S0 (fun w hS => ?_) ?_; rotate_left; (focus (clear hS; go_simp; rfl)); simp only [List.setIfInBounds_toArray, List.set_cons_succ, List.set_cons_zero])
      (refine tree_take (v := ?_) rfl rfl rfl S0 (fun w hS => ?_) ?_; rotate_left; (focus (clear hS; go_simp; rfl)); simp only [List.setIfInBounds_toArray, List.set_cons_succ, List.set_cons_zero])
      (refine tree_take (v := ?_) rfl rfl rfl S0 (fun w hS => ?_) ?_; rotate_left; (focus (clear hS; go_simp; rfl)); simp only [List.setIfInBounds_toArray, List.set_cons_succ, List.set_cons_zero])
      (refine tree_take (v := ?_) rfl rfl rfl S0 (fun w hS => ?_) ?_; rotate_left; (focus (clear hS; go_simp; rfl)); simp only [List.setIfInBounds_toArray, List.set_cons_succ, List.set_cons_zero])
      (refine tree_take (v := ?_) rfl rfl rfl S0 (fun w hS => ?_) ?_; rotate_left; (focus (clear hS; go_simp; rfl)); simp only [List.setIfInBounds_toArray, List.set_cons_succ, List.set_cons_zero])
      (refine tree_take (v := ?_) rfl rfl rfl S0 (fun w hS => ?_) ?_; rotate_left; (focus (have s1' := hS.cel s1 (by simp); clear hS; go_simp; rfl)); simp only [List.setIfInBounds_toArray, List.set_cons_succ, List.set_cons_zero])
      refine tree_one rfl rfl (fun K hK => ?_)
      go_simp
      have A6 := ints_new (W := WC) [6, 11, 25] (by simp)
      have fa := Fr.alloc [] WC (.cells #[.int .i64 6, .int .i64 11, .int .i64 25] 3)
      refine hK _ _ (S0.trans fa) ?_
      have S0 := S0.trans fa
      change IntsAt (WC.alloc (.cells #[.int .i64 6, .int .i64 11, .int .i64 25] 3)) (.slice (some ⟨WC.heap.size, 0, none⟩) 3 3) _ at A6
      generalize WC.alloc (.cells #[.int .i64 6, .int .i64 11, .int .i64 25] 3) = W6 at *
      clear fa
      clear hK K
      try simp only [Act.put, List.setIfInBounds_toArray, List.set_cons_succ, List.set_cons_zero]
      refine tree_one rfl rfl (fun K hK => ?_)
      go_simp
      refine (mixed_c v.e _ [6, 11, 25] W6 A6 (by decide)).mono ?_
      rintro e W7 ⟨rfl, fx⟩
      refine hK _ _ (S0.trans fx) ?_
      have S0 := S0.trans fx
      clear fx
      clear hK K
      try simp only [Act.put, List.setIfInBounds_toArray, List.set_cons_succ, List.set_cons_zero]
      (refine tree_take (v := ?_) rfl rfl rfl S0 (fun w hS => ?_) ?_; rotate_left; (focus (clear hS; go_simp; rfl)); simp only [List.setIfInBounds_toArray, List.set_cons_succ, List.set_cons_zero])
      (refine tree_take (v := ?_) rfl rfl rfl S0 (fun w hS => ?_) ?_; rotate_left; (focus (clear hS; go_simp; rfl)); simp only [List.setIfInBounds_toArray, List.set_cons_succ, List.set_cons_zero])
      (refine tree_take (v := ?_) rfl rfl rfl S0 (fun w hS => ?_) ?_; rotate_left; (focus (clear hS; go_simp; rfl)); simp only [List.setIfInBounds_toArray, List.set_cons_succ, List.set_cons_zero])
      (refine tree_take (v := ?_) rfl rfl rfl S0 (fun w hS => ?_) ?_; rotate_left; (focus (clear hS; go_simp; rfl)); simp only [List.setIfInBounds_toArray, List.set_cons_succ, List.set_cons_zero])
      refine tree_last rfl rfl (fun K hK => ?_)
      go_simp
      try go_upon
      try go_simp
      refine hK _ _ ?_
      clear hK K
      refine noPanicN ?_
      clear A6
      go_wp2_with fail
      -- @@7
      refine reg_tree (Fr [] wr) 19 (.take 0 (.take 3 (.take 4 (.take 5 (.take 6 (.take 7 (.take 8 (.take 9 (.take 10 (.take 11 (.take 12 (.take 13 (.take 14 (.take 15 (.take 16 (.take 17 (.one 1 (.one 2 (.take 18 (.one 19 .nil)))))))))))))))))))) (by kernel_rfl) (by kernel_rfl) (by kernel_rfl) rfl ?_
      have S0 := S0.trans (Fr.drew [] W7)
      generalize W7.drew = W7 at S0 ⊢
      (refine tree_take (v := ?_) rfl rfl rfl S0 (fun w hS => ?_) ?_; rotate_left; (focus (clear hS; go_simp; rfl)); simp only [List.setIfInBounds_toArray, List.set_cons_succ, List.set_cons_zero])
      (refine tree_take (v := ?_) rfl rfl rfl S0 (fun w hS => ?_) ?_; rotate_left; (focus (clear hS; go_simp; rfl)); simp only [List.setIfInBounds_toArray, List.set_cons_succ, List.set_cons_zero])
      (refine tree_take (v := ?_) rfl rfl rfl S0 (fun w hS => ?_) ?_; rotate_left; (focus (clear hS; go_simp; rfl)); simp only [List.setIfInBounds_toArray, List.set_cons_succ, List.set_cons_zero])
      (refine tree_take (v := ?_) rfl rfl rfl S0 (fun w hS => ?_) ?_; rotate_left; (focus (have e1' := hS.cel e1 (by simp); clear hS; go_simp; rfl)); simp only [List.setIfInBounds_toArray, List.set_cons_succ, List.set_cons_zero])
      (refine tree_take (v := ?_) rfl rfl rfl S0 (fun w hS => ?_) ?_; rotate_left; (focus (clear hS; go_simp; rfl)); simp only [List.setIfInBounds_toArray, List.set_cons_succ, List.set_cons_zero])
      (refine tree_take (v := ?_) rfl rfl rfl S0 (fun w hS => ?_) ?_; rotate_left; (focus (clear hS; go_simp; rfl)); simp only [List.setIfInBounds_toArray, List.set_cons_succ, List.set_cons_zero])
      (refine tree_take (v := ?_) rfl rfl rfl S0 (fun w hS => ?_) ?_; rotate_left; (focus (clear hS; go_simp; rfl)); simp only [List.setIfInBounds_toArray, List.set_cons_succ, List.set_cons_zero])
      (refine tree_take (v := ?_) rfl rfl rfl S0 (fun w hS => ?_) ?_; rotate_left; (focus (have e2' := hS.cel e2 (by simp); clear hS; go_simp; rfl)); simp only [List.setIfInBounds_toArray, List.set_cons_succ, List.set_cons_zero])
      (refine tree_take (v := ?_) rfl rfl rfl S0 (fun w hS => ?_) ?_; rotate_left; (focus (clear hS; go_simp; rfl)); simp only [List.setIfInBounds_toArray, List.set_cons_succ, List.set_cons_zero])
      (refine tree_take (v := ?_) rfl rfl rfl S0 (fun w hS => ?_) ?_; rotate_left; (focus (clear hS; go_simp; rfl)); simp only [List.setIfInBounds_toArray, List.set_cons_succ, List.set_cons_zero])
      (refine tree_take (v := ?_) rfl rfl rfl S0 (fun w hS => ?_) ?_; rotate_left; (focus (clear hS; go_simp; rfl)); simp only [List.setIfInBounds_toArray, List.set_cons_succ, List.set_cons_zero])
      (refine tree_take (v := ?_) rfl rfl rfl S0 (fun w hS => ?_) ?_; rotate_left; (focus (have e1' := hS.cel e1 (by simp); clear hS; go_simp; rfl)); simp only [List.setIfInBounds_toArray, List.set_cons_succ, List.set_cons_zero])
      (refine tree_take (v := ?_) rfl rfl rfl S0 (fun w hS => ?_) ?_; rotate_left; (focus (clear hS; go_simp; rfl)); simp only [List.setIfInBounds_toArray, List.set_cons_succ, List.set_cons_zero])
      (refine tree_take (v := ?_) rfl rfl rfl S0 (fun w hS => ?_) ?_; rotate_left; (focus (have e2' := hS.cel e2 (by simp); clear hS; go_simp; rfl)); simp only [List.setIfInBounds_toArray, List.set_cons_succ, List.set_cons_zero])
      (refine tree_take (v := ?_) rfl rfl rfl S0 (fun w hS => ?_) ?_; rotate_left; (focus (clear hS; go_simp; rfl)); simp only [List.setIfInBounds_toArray, List.set_cons_succ, List.set_cons_zero])
      (refine tree_take (v := ?_) rfl rfl rfl S0 (fun w hS => ?_) ?_; rotate_left; (focus (clear hS; go_simp; rfl)); simp only [List.setIfInBounds_toArray, List.set_cons_succ, List.set_cons_zero])
      refine tree_one rfl rfl (fun K hK => ?_)
      go_simp
      have A7 := ints_new (W := W7) [2, 13, 22] (by simp)
      have fa := Fr.alloc [] W7 (.cells #[.int .i64 2, .int .i64 13, .int .i64 22] 3)
      refine hK _ _ (S0.trans fa) ?_
      have S0 := S0.trans fa
      change IntsAt (W7.alloc (.cells #[.int .i64 2, .int .i64 13, .int .i64 22] 3)) (.slice (some ⟨W7.heap.size, 0, none⟩) 3 3) _ at A7
      generalize W7.alloc (.cells #[.int .i64 2, .int .i64 13, .int .i64 22] 3) = W8 at *
      clear fa
      clear hK K
      try simp only [Act.put, List.setIfInBounds_toArray, List.set_cons_succ, List.set_cons_zero]
      refine tree_one rfl rfl (fun K hK => ?_)
      go_simp
      refine (mixed_c v.a _ [2, 13, 22] W8 A7 (by decide)).mono ?_
      rintro e W9 ⟨rfl, fx⟩
      refine hK _ _ (S0.trans fx) ?_
      have S0 := S0.trans fx
      clear fx
      clear hK K
      try simp only [Act.put, List.setIfInBounds_toArray, List.set_cons_succ, List.set_cons_zero]
      (refine tree_take (v := ?_) rfl rfl rfl S0 (fun w hS => ?_) ?_; rotate_left; (focus (clear hS; go_simp; rfl)); simp only [List.setIfInBounds_toArray, List.set_cons_succ, List.set_cons_zero])
      refine tree_last rfl rfl (fun K hK => ?_)
      go_simp
      try go_upon
      try go_simp
      refine hK _ _ ?_
      clear hK K
      refine noPanicN ?_
      clear A7
      clear e0 e1 e2 e4 e5 e6 e7 s1
      go_wp2_with fail
      -- @@8
      refine reg_tree (Fr [] wr) 2 (.take 0 (.take 1 (.one 2 .nil))) (by kernel_rfl) (by kernel_rfl) (by kernel_rfl) rfl ?_
      have S0 := S0.trans (Fr.drew [] W9)
      generalize W9.drew = W9 at S0 ⊢
      (refine tree_take (v := ?_) rfl rfl rfl S0 (fun w hS => ?_) ?_; rotate_left; (focus (clear hS; go_simp; rfl)); simp only [List.setIfInBounds_toArray, List.set_cons_succ, List.set_cons_zero])
      (refine tree_take (v := ?_) rfl rfl rfl S0 (fun w hS => ?_) ?_; rotate_left; (focus (clear hS; go_simp; rfl)); simp only [List.setIfInBounds_toArray, List.set_cons_succ, List.set_cons_zero])
      refine tree_last rfl rfl (fun K hK => ?_)
      refine wp_copy_sh (.tmp 69) (.tmp 70) 226 226 255 rfl Tryz.underlying226 B5 7 8 v rfl rfl (S0.keep H5.out (by simp)) ?_
      intro W10 f10 h10
      refine hK _ _ ?_
      clear hK K
      refine noPanicN ?_
      -- @@9
      have G1 := H1.out.trans S0
      have G4 := Lib.hid (f10.keep (S0.keep H4.out (by simp)) (by simp; have := HB5.out; omega))
      have f4 : W10.cell? ⟨B5, 4, none⟩ = some (.int .u32 v.d) := cell_of_blk h10 4
      have f0 : W10.cell? ⟨B5, 0, none⟩ = some (.int .u32 v.a) := cell_of_blk h10 0
      have g4 := free_of_blk h10 4
      have g0 := free_of_blk h10 0
      have HX := Lib.hid (fun x y => heap_setCell_same (i := 4) y (heap_setCell_same (i := 0) x h10))
      have HF := Lib.hid (fun x y => (G1.step f10 (fun i hi => .inr (by rw [List.mem_singleton] at hi; have := HB5.out; omega))).step ((Fr.setCell (fp := [B5]) W10 (p := ⟨B5, 0, none⟩) x (by simp)).trans (Fr.setCell (fp := [B5]) _ (p := ⟨B5, 4, none⟩) y (by simp))) (fun i hi => .inr (by rw [List.mem_singleton] at hi; have := HB5.out; omega)))
      have HG4 := Lib.hid (fun x y => heap_setCell_other (p := ⟨B5, 4, none⟩) y (heap_setCell_other (p := ⟨B5, 0, none⟩) x G4.out (by simp; have := HB5.out; omega)) (by simp; have := HB5.out; omega))
      clear h10 f10 G1 G4 S0
      go_wp2_with fail
      go_roundw
      case rel => exact ⟨k + 1, by omega, by go_num, Lib.hid (HF.out _ _), Lib.hid (HG4.out _ _), Lib.hid (by rw [HT.out]; exact (HX.out _ _).trans (congrArg (fun c => some (Obj.cells c 255 (0, 0))) (rnd_cells v y x _ _ (rnd_a v y x) (rnd_e v y x))))⟩
      case measure => simp [RowKit.intOf]; omega
    · have HK64 : Shut (k = 64) := ⟨by omega⟩
      -- @@L2
      have HD : Shut (addB h l = sum8 h (rnds s h k)) := ⟨by rw [addB, HS.out, HK64.out]⟩
      generalize rnds s h k = v at *
      go_wp2_with fail
      go_loopw [82] (fun i w2 => ∃ j : Nat, j ≤ 8 ∧ i = .int .i64 j ∧ Hid (Fr [hb] w w2) ∧ Hid (w2.heap[B5]? = some (.cells (w8C v) 255 (0, 0))) ∧ Hid (w2.heap[hb]? = some (.cells (u32A (part8 h v j)) 255 (0, 0)))) (fun i _ => 8 - (RowKit.intOf i).toNat)
      case atStart => exact ⟨0, by omega, rfl, Lib.hid (H1.out.mono (by simp)), H5, Lib.hid (H1.out.keep HK.out (by simp))⟩
      case round =>
        obtain ⟨j, hj, rfl, G1, G5, GH⟩ := hrel
        by_cases hjl : j < 8
        · have s1 : wr.cell? ⟨hb, j, none⟩ = some (.int .u32 (h.list.getD j 0)) := by rw [cell_of_blk GH.out, u32A_get _ _ (by rw [part8_len h v hj]; exact hjl), part8_get h v hjl]
          have s2 : wr.cell? ⟨B5, j, none⟩ = some (.int .u32 (v.list.getD j 0)) := by rw [cell_of_blk G5.out, u32A_get _ _ (by rw [W8.list_len]; exact hjl)]
          have HP : Shut ((part8 h v j).set j (IntKind.u32.wrap (h.list.getD j 0 + v.list.getD j 0)) = part8 h v (j + 1)) := ⟨part8_set h v hjl⟩
          generalize h.list.getD j 0 = x at *
          generalize v.list.getD j 0 = y at *
          go_wp2_with fail
          refine reg_tree (Fr [] wr) 11 (.take 0 (.take 1 (.take 2 (.take 3 (.take 4 (.take 5 (.take 6 (.take 7 (.take 8 (.take 9 (.take 10 (.one 11 .nil)))))))))))) (by kernel_rfl) (by kernel_rfl) (by kernel_rfl) rfl ?_
          have S0 : Fr [] wr wr.drew := Fr.drew _ _
          generalize wr.drew = WC at S0 ⊢
          (refine tree_take (v := ?_) rfl rfl rfl S0 (fun w hS => ?_) ?_; rotate_left; (focus (clear hS; go_simp; rfl)); simp only [List.setIfInBounds_toArray, List.set_cons_succ, List.set_cons_zero])
          (refine tree_take (v := ?_) rfl rfl rfl S0 (fun w hS => ?_) ?_; rotate_left; (focus (clear hS; go_simp; rfl)); simp only [List.setIfInBounds_toArray, List.set_cons_succ, List.set_cons_zero])
          (refine tree_take (v := ?_) rfl rfl rfl S0 (fun w hS => ?_) ?_; rotate_left; (focus (clear hS; go_simp; rfl)); simp only [List.setIfInBounds_toArray, List.set_cons_succ, List.set_cons_zero])
          (refine tree_take (v := ?_) rfl rfl rfl S0 (fun w hS => ?_) ?_; rotate_left; (focus (clear hS; go_simp; rfl)); simp only [List.setIfInBounds_toArray, List.set_cons_succ, List.set_cons_zero])
          (refine tree_take (v := ?_) rfl rfl rfl S0 (fun w hS => ?_) ?_; rotate_left; (focus (have s1' := hS.cel s1 (by simp); clear hS; go_simp; rfl)); simp only [List.setIfInBounds_toArray, List.set_cons_succ, List.set_cons_zero])
          (refine tree_take (v := ?_) rfl rfl rfl S0 (fun w hS => ?_) ?_; rotate_left; (focus (clear hS; go_simp; rfl)); simp only [List.setIfInBounds_toArray, List.set_cons_succ, List.set_cons_zero])
          (refine tree_take (v := ?_) rfl rfl rfl S0 (fun w hS => ?_) ?_; rotate_left; (focus (clear hS; go_simp; rfl)); simp only [List.setIfInBounds_toArray, List.set_cons_succ, List.set_cons_zero])
          (refine tree_take (v := ?_) rfl rfl rfl S0 (fun w hS => ?_) ?_; rotate_left; (focus (have s2' := hS.cel s2 (by simp); clear hS; go_simp; rfl)); simp only [List.setIfInBounds_toArray, List.set_cons_succ, List.set_cons_zero])
          (refine tree_take (v := ?_) rfl rfl rfl S0 (fun w hS => ?_) ?_; rotate_left; (focus (clear hS; go_simp; rfl)); simp only [List.setIfInBounds_toArray, List.set_cons_succ, List.set_cons_zero])
          (refine tree_take (v := ?_) rfl rfl rfl S0 (fun w hS => ?_) ?_; rotate_left; (focus (clear hS; go_simp; rfl)); simp only [List.setIfInBounds_toArray, List.set_cons_succ, List.set_cons_zero])
          (refine tree_take (v := ?_) rfl rfl rfl S0 (fun w hS => ?_) ?_; rotate_left; (focus (clear hS; go_simp; rfl)); simp only [List.setIfInBounds_toArray, List.set_cons_succ, List.set_cons_zero])
          have t0 := S0.cel s1 (by simp)
          have t1 := free_of_blk (S0.keep GH.out (by simp)) j
          refine tree_last rfl rfl (fun K hK => ?_)
          go_simp
          try go_upon
          try go_simp
          refine hK _ _ ?_
          clear hK K
          refine noPanicN ?_
          have X1 := heap_setCell_same (i := j) (.int .u32 (IntKind.u32.wrap (x + y))) (S0.keep GH.out (by simp))
          rw [u32A_set, HP.out] at X1
          have HX := Lib.hid X1
          have HF := Lib.hid ((G1.out.trans (S0.mono (by simp))).trans (Fr.setCell (fp := [hb]) WC (p := ⟨hb, j, none⟩) (.int .u32 (IntKind.u32.wrap (x + y))) (by simp)))
          have HG5 := Lib.hid (heap_setCell_other (p := ⟨hb, j, none⟩) (.int .u32 (IntKind.u32.wrap (x + y))) (S0.keep G5.out (by simp)) (by simp; have := HB5.out; have := HKB.out; omega))
          clear X1 t0 t1 s1 s2 S0
          go_wp2_with fail
          go_roundw
          case rel => exact ⟨j + 1, by omega, by go_num, HF.out, HG5.out, HX.out⟩
          case measure => simp [RowKit.intOf]; omega
        · obtain rfl : j = 8 := by omega
          go_wp2_with fail
          go_end0
          refine ⟨rfl, G1.out, ?_⟩
          rw [HD.out]
          exact GH.out

end Go.Proofs.YtahfpadaoobkfaaGreatDoor

/-
  digest: the bytes of the words.
-/
namespace Go.Proofs.YtahfpadaoobkfaaGreatDoor
open Go.RowKit Go.Lib

def digB (v : W8) : ByteArray := ⟨((outL v).map toB).toArray⟩
theorem u8A_out (v : W8) : u8A (outL v) = (byteCells ((outL v).map toB)).toArray := by rw [u8A, u8C_bytes (outL_b v)]
set_option maxRecDepth 100000 in
set_option maxHeartbeats 4000000 in
theorem digest_c (v : W8) (w : World) : Calls Tryz.prog 167 #[.agg (w8C v)] w fun e w' => e = .returned (.string (digB v)) ∧ Fr [] w w' := by
  rw [w8C_lit]
  go_enter Tryz.func167, Tryz.ntmps167
  go_upto_region 1 with fail
  change Code.wp _ _ _ _ (w.alloc (.cells (w8C v) 255))
  have hA := heap_alloc_new w (.cells (w8C v) 255)
  have FA := Lib.hid (Fr.alloc [] w (.cells (w8C v) 255))
  generalize w.alloc (.cells (w8C v) 255) = W1 at *
  obtain ⟨B1, hB⟩ : ∃ B, B = w.heap.size := ⟨_, rfl⟩
  rw [← hB] at hA ⊢
  have HA := Lib.hid hA
  clear hA hB
  go_upto_region 2 with fail
  change Code.wp _ _ _ _ (W1.alloc (.cells (u8A (List.replicate 32 0)) 273))
  have hA3 := heap_alloc_new W1 (.cells (u8A (List.replicate 32 0)) 273)
  have F2 := Lib.hid (FA.out.trans (Fr.alloc [] W1 (.cells (u8A (List.replicate 32 0)) 273)))
  have hA1 := (Fr.alloc [] W1 (.cells (u8A (List.replicate 32 0)) 273)).keep HA.out (by simp)
  generalize W1.alloc (.cells (u8A (List.replicate 32 0)) 273) = W2 at *
  obtain ⟨B3, hB⟩ : ∃ B, B = W1.heap.size := ⟨_, rfl⟩
  have HB3 : Hid (w.heap.size ≤ B3) := Lib.hid (by rw [hB]; exact FA.out.size)
  rw [← hB] at hA3 ⊢
  have HA3 := Lib.hid hA3
  clear hA3 hB FA HA
  have d0 : W2.cell? ⟨B1, 0, none⟩ = some (.int .u32 v.a) := cell_of_blk hA1 0
  have d1 : W2.cell? ⟨B1, 1, none⟩ = some (.int .u32 v.b) := cell_of_blk hA1 1
  have d2 : W2.cell? ⟨B1, 2, none⟩ = some (.int .u32 v.c) := cell_of_blk hA1 2
  have d3 : W2.cell? ⟨B1, 3, none⟩ = some (.int .u32 v.d) := cell_of_blk hA1 3
  have d4 : W2.cell? ⟨B1, 4, none⟩ = some (.int .u32 v.e) := cell_of_blk hA1 4
  have d5 : W2.cell? ⟨B1, 5, none⟩ = some (.int .u32 v.f) := cell_of_blk hA1 5
  have d6 : W2.cell? ⟨B1, 6, none⟩ = some (.int .u32 v.g) := cell_of_blk hA1 6
  have d7 : W2.cell? ⟨B1, 7, none⟩ = some (.int .u32 v.h) := cell_of_blk hA1 7
  clear hA1
  go_wp2_with fail
  -- @@1
  clear d0 d1 d2 d3 d4 d5 d6 d7
  go_loopw [8] (fun i wr => ∃ k : Nat, k ≤ 8 ∧ i = .int .i64 k ∧ Hid (Fr [] w wr) ∧ Hid (wr.heap[B3]? = some (.cells (u8A ((outL v).take (4 * k) ++ List.replicate (32 - 4 * k) 0)) 273 (0, 0)))) (fun i _ => 8 - (RowKit.intOf i).toNat)
  case atStart => exact ⟨0, by omega, rfl, F2, HA3⟩
  case round =>
    obtain ⟨k, hk, rfl, H1, H3⟩ := hrel
    by_cases hlt : k < 8
    · have i0 : ∀ W : World, (Instr.index 255 (.agg #[.int .u32 v.a, .int .u32 v.b, .int .u32 v.c, .int .u32 v.d, .int .u32 v.e, .int .u32 v.f, .int .u32 v.g, .int .u32 v.h]) (.int .i64 k)).run Tryz.prog W = .ok (.int .u32 (v.list.getD k 0)) W := fun W => arr_index (l := v.list) Tryz.underlying255 rfl hlt
      have HO : Shut (∀ j, j < 4 → (outL v).getD (4 * k + j) 0 = byteI (v.list.getD k 0 / 2 ^ (24 - 8 * j))) := ⟨fun j hj => outL_get v k j hlt hj⟩
      generalize v.list.getD k 0 = x at *
      go_wp2_with fail
      -- @@2
      clear i0
      go_loopw [12] (fun i wq => ∃ j : Nat, j ≤ 4 ∧ i = .int .i64 j ∧ Hid (Fr [] w wq) ∧ Hid (wq.heap[B3]? = some (.cells (u8A ((outL v).take (4 * k + j) ++ List.replicate (32 - (4 * k + j)) 0)) 273 (0, 0)))) (fun i _ => 4 - (RowKit.intOf i).toNat)
      case atStart => exact ⟨0, by omega, rfl, H1, H3⟩
      case round =>
        obtain ⟨j, hj, rfl, G1, G3⟩ := hrel
        by_cases hj4 : j < 4
        · have HT : Shut (((outL v).take (4 * k + j) ++ List.replicate (32 - (4 * k + j)) 0).set (4 * k + j) (byteI (x / 2 ^ (24 - 8 * j))) = (outL v).take (4 * k + j + 1) ++ List.replicate (32 - (4 * k + j + 1)) 0) := ⟨outL_step v (4 * k + j) _ (by omega) (HO.out j hj4)⟩
          have t0 : wr.cell? ⟨B3, 4 * k + j, none⟩ = some (.int .u8 (((outL v).take (4 * k + j) ++ List.replicate (32 - (4 * k + j)) 0).getD (4 * k + j) 0)) := by
            rw [cell_of_blk G3.out, u8A_get _ _ (by rw [List.length_append, List.length_take, List.length_replicate, outL_len]; omega)]
          have t1 := free_of_blk G3.out (4 * k + j)
          generalize ((outL v).take (4 * k + j) ++ List.replicate (32 - (4 * k + j)) 0).getD (4 * k + j) 0 = y at t0
          have HX : Shut (∀ z : Int, z = byteI (x / 2 ^ (24 - 8 * j)) → (wr.setCell ⟨B3, 4 * k + j, none⟩ (.int .u8 z)).heap[B3]? = some (.cells (u8A ((outL v).take (4 * k + (j + 1)) ++ List.replicate (32 - (4 * k + (j + 1))) 0)) 273 (0, 0))) := ⟨fun z hz => by
            rw [heap_setCell_same _ G3.out, u8A_set, hz, HT.out]; rfl⟩
          have HF : Shut (∀ z : Value, Fr [] w (wr.setCell ⟨B3, 4 * k + j, none⟩ z)) := ⟨fun z => G1.out.step (Fr.setCell (fp := [B3]) wr (p := ⟨B3, 4 * k + j, none⟩) z (by simp)) (fun i hi => .inr (by rw [List.mem_singleton] at hi; have := HB3.out; omega))⟩
          have hz : (4 * (k : Int) + (j : Int)).toNat = 4 * k + j := by omega
          have hm : min (24 - 8 * (j : Int)).toNat 32 = 24 - 8 * j := by omega
          go_wp2_with fail
          -- @@3
          go_roundw
          case rel => exact ⟨j + 1, by omega, by go_num, Lib.hid (HF.out _), Lib.hid (HX.out _ (by rw [byteI, IntKind.wrap_u8]))⟩
          case measure => simp [RowKit.intOf]; omega
        · have HJ : Shut (j = 4) := ⟨by omega⟩
          go_wp2_with fail
          go_roundw
          case rel => exact ⟨k + 1, by omega, by go_num, G1, by rw [show 4 * (k + 1) = 4 * k + j by have := HJ.out; omega]; exact G3⟩
          case measure => simp [RowKit.intOf]; omega
    · have h9 : wr.heap[B3]? = some (.cells (u8A (outL v)) 273 (0, 0)) := by
        have e : k = 8 := by omega
        rw [H3.out, e, List.take_of_length_le (by rw [outL_len]; omega)]; simp
      rw [u8A_out] at h9
      have hb : BytesAt wr B3 273 ((outL v).map toB) := h9
      have HB := Lib.hid hb
      clear h9 hb
      go_wp2_with (first | ((with_reducible refine wpList_of_wp (o := ⟨some 29, _, _, _, _, _⟩) rfl (fun K hK => ?_)); apply stopD; case _other => exact trivial))
      (refine stopD ?_ ?_; rotate_left; exact trivial)
      refine wp_bytes_str (.tmp 28) 160 9 5 rfl Tryz.underlying160 Tryz.underlying5 Tryz.underlying9 B3 0 32 32 _ 273 rfl HB.out (by rw [List.length_map, outL_len]; omega) ?_
      refine hK _ _ ?_
      clear hK K
      go_wp2_with fail
      go_ret
      refine ⟨?_, H1.out⟩
      show Ending.returned (.string ⟨(((outL v).map toB).take 32).toArray⟩) = _
      rw [List.take_of_length_le (by rw [List.length_map, outL_len]; omega)]
      rfl

end Go.Proofs.YtahfpadaoobkfaaGreatDoor
