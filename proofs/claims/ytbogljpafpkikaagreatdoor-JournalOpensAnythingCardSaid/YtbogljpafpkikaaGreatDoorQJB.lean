/-
  strings.Builder with a narrow frame: only the builder's own blocks change.
-/
import Derived.Test.YtbogljpafpkikaaGreatDoorQJC
import Derived.Test.YtbogljpafpkikaaGreatDoorQShX
namespace Go.Proofs.YtbogljpafpkikaaGreatDoor
open Go.RowKit Go.Lib

/-- A builder in block b that holds the bytes l; p: what it knows of itself; v: its buffer. -/
structure BldAt (w : World) (b : Nat) (p v : Value) (l : List UInt8) : Prop where
  blk : w.heap[b]? = some (.cells #[p, v] 75 (0, 0))
  row : w.ownsRow 0 5 1 v l.length (byteCells l)
  ne : v.ownBlock ≠ some b
def bldB (b : Nat) (v : Value) : List Nat := b :: v.ownBlock.toList
theorem strCells_bytes (s : ByteArray) : strCells s = byteCells (bts s) := rfl

theorem append_str (v : Value) (l : List UInt8) (s : ByteArray) (ty : TypeId) (w : World) (hown : w.ownsRow 0 5 1 v l.length (byteCells l)) (h : l.length + s.size ≤ 140737488355328) :
    ∃ ga cap w', (Builtin.append_ #[39, 9] ty #[v, .string s]).run Tryz.prog w = .ok (.slice ga (l.length + s.size) cap) w' ∧ w'.ownsRow 0 5 1 (.slice ga (l.length + s.size) cap) (l ++ bts s).length (byteCells (l ++ bts s)) ∧ Fr v.ownBlock.toList w w' ∧
      ((Value.slice ga (l.length + s.size) cap).ownBlock = v.ownBlock ∨ (Value.slice ga (l.length + s.size) cap).ownBlock = some w.heap.size) := by
  obtain ⟨i, hi, hz, hsize, hby⟩ := info_parts infoBy
  have ht := Tryz.underlying39
  have hu := Tryz.underlying9
  have e1 : (l ++ bts s).length = l.length + s.size := by simp [bts_len]
  have e2 : byteCells (l ++ bts s) = byteCells l ++ strCells s := by simp [byteCells, strCells, bts]
  rw [e1, e2]
  have hsmall : l.length + s.size ≤ maxLen := by simp only [maxLen]; omega
  have hxl : (byteCells l).length = l.length := by simp [byteCells]
  have grown : ∀ old, old < l.length + s.size → ∀ (row : List Nat),
      (w.drew.alloc (.cells ((byteCells l).toArray ++ (strCells s).toArray ++ Builtin.zeroCells (Value.int .u8 0).cells (grownCap w (l.length + s.size) old 5 - (l.length + s.size))) 5)).ownsRow 0 5 1
        (.slice (some ⟨w.heap.size, 0, none⟩) (l.length + s.size) (grownCap w (l.length + s.size) old 5)) (l.length + s.size) (byteCells l ++ strCells s) ∧
      Fr row w (w.drew.alloc (.cells ((byteCells l).toArray ++ (strCells s).toArray ++ Builtin.zeroCells (Value.int .u8 0).cells (grownCap w (l.length + s.size) old 5 - (l.length + s.size))) 5)) := by
    intro old ho row
    have hge := grownCap_ge w (l.length + s.size) old 5
    have hcm : grownCap w (l.length + s.size) old 5 ≤ maxLen := grownCap_le_maxLen w (l.length + s.size) old 5 hsmall
    refine ⟨⟨by rw [List.length_append, hxl, strCells_length, Nat.mul_one], .inr ⟨w.heap.size, _, _, rfl, Nat.zero_le _, heap_alloc_new w.drew _, hge, hcm, ?_, ?_⟩⟩, (Fr.drew _ _).trans (Fr.alloc _ _ _)⟩
    · have hz1 : (Value.int IntKind.u8 0).cells.size = 1 := rfl
      simp only [Array.size_append, List.size_toArray, size_zeroCells, hz1, hxl, strCells_length]
      omega
    · simp only [Array.toList_append, Nat.mul_one]
      exact List.take_left' (by rw [List.length_append, hxl, strCells_length])
  rcases hown.2 with ⟨rfl, h0⟩ | ⟨g, cap, cur, rfl, hbg, hg, hnc, hcm, hcs, htake⟩
  · obtain rfl : l = [] := List.eq_nil_of_length_eq_zero h0
    by_cases hm : s.size = 0
    · have hn : strCells s = [] := List.eq_nil_of_length_eq_zero (by rw [strCells_length]; exact hm)
      refine ⟨none, 0, w, ?_, by rw [hm, hn]; exact World.ownsRow_nil w 0 5 1, Fr.refl _ _, .inl rfl⟩
      have hf := run_firstCells_string (P := Tryz.prog) w 1 s
      rw [hm] at hf
      simp [Builtin.append_, run_underlying ht, run_underlying hu, sizeOf, typeInfo, hi, hsize, Builtin.lenOf, hm, hf]
    · have hr := run_append_nil_string (P := Tryz.prog) w 39 9 ty 5 i (.int .u8 0) ht hu hi hz s (by omega) (by simp at h; omega) (by rw [hby]; simp at h; omega)
      have hgr := grown 0 (by simp; omega) (Value.ownBlock (.slice none 0 0)).toList
      have e3 : (s.data.map fun b => Value.int .u8 b.toNat) = (strCells s).toArray := by
        apply Array.ext'
        simp [strCells]
      rw [e3] at hr
      simp only [List.length_nil, Nat.zero_add, byteCells, List.map_nil, List.nil_append, Array.empty_append] at hgr ⊢
      exact ⟨_, _, _, hr, hgr.1, hgr.2, .inr rfl⟩
  · by_cases hroom : l.length + s.size ≤ cap
    · have hcs' : cur.size = cap := by simpa using hcs
      have hr := run_append_room_string (P := Tryz.prog) w 39 9 ty 5 i ht hu hi hsize g l.length cap cur hg s hroom (by omega)
      refine ⟨_, _, _, hr, ⟨by rw [List.length_append, hxl, strCells_length, Nat.mul_one], .inr ⟨g, cap, _, rfl, hbg, setRow_heap w g cur _ 5 _ hg, hroom, hcm, ?_, ?_⟩⟩, Fr.setRow _ _ (by simp [Value.ownBlock]), .inl rfl⟩
      · simp only [List.size_toArray, List.length_append, List.length_take, List.length_drop, Array.length_toList, strCells_length]
        omega
      · have ht' : cur.toList.take l.length = byteCells l := by simpa using htake
        rw [ht', Nat.mul_one]
        exact List.take_left' (by rw [List.length_append, hxl, strCells_length])
    · have holds : ∀ j u, (byteCells l)[j]? = some u → w.cell? ((⟨g, 0, none⟩ : Addr).add j) = some u := hown.cells (g := g) rfl
      have hr := run_append_grow_string (P := Tryz.prog) w 39 9 ty 5 i (.int .u8 0) ht hu hi hz ⟨g, 0, none⟩ l.length cap (byteCells l) (by rw [hsize]; simp [byteCells]) holds s (by omega) (by omega) (by rw [hby]; exact growslice_fits (by omega) (by omega))
      have hgr := grown cap (by omega) (Value.ownBlock (.slice (some ⟨g, 0, none⟩) l.length cap)).toList
      exact ⟨_, _, _, hr, hgr.1, hgr.2, .inr rfl⟩

theorem wp_append_str {o : Oper} {a : Act} {w : World} {K : Act → World → Prop} {Q : Exit → Act → World → Prop} (s x : Operand) (ho : o.op = .call { callee := .builtin .append, args := #[s, x], argTypes := #[39, 9] })
    (v : Value) (l : List UInt8) (sb : ByteArray) (hs : a.eval s = v) (hx : a.eval x = .string sb) (hown : w.ownsRow 0 5 1 v l.length (byteCells l)) (hlen : l.length + sb.size ≤ 140737488355328)
    (h : ∀ ga cap w', w'.ownsRow 0 5 1 (.slice ga (l.length + sb.size) cap) (l ++ bts sb).length (byteCells (l ++ bts sb)) → Fr v.ownBlock.toList w w' → ((Value.slice ga (l.length + sb.size) cap).ownBlock = v.ownBlock ∨ (Value.slice ga (l.length + sb.size) cap).ownBlock = some w.heap.size) → K (a.put o.dst (.slice ga (l.length + sb.size) cap)) w') : o.wp Tryz.prog a w K Q := by
  obtain ⟨ga, cap, w', hr, h2, h3, h4⟩ := append_str v l sb o.type w hown hlen
  unfold Oper.wp execOp
  simp only [ho, resolve, invoke, builtin, Sem.run_bind, Sem.run_pure, Result.andThen_ok, List.map_toArray, List.map_cons, List.map_nil, hs, hx, hr]
  exact h ga cap w' h2 h3 h4

end Go.Proofs.YtbogljpafpkikaaGreatDoor

/-
  strings.Builder: WriteString, String, with narrow frames.
-/
namespace Go.Proofs.YtbogljpafpkikaaGreatDoor
open Go.RowKit Go.Lib

theorem BldAt.fr {w w' : World} {b : Nat} {p v : Value} {l : List UInt8} {S : List Nat} (h : BldAt w b p v l) (hf : Fr S w w') (hS : ∀ k, k ∈ bldB b v → k ∉ S) : BldAt w' b p v l :=
  ⟨hf.keep h.blk (hS b (by simp [bldB])), row_fr h.row hf (fun g hg => hS g (by simp [bldB, hg])), h.ne⟩

theorem copy_c (b : Nat) (p v : Value) (l : List UInt8) (w : World) (h : BldAt w b p v l) (hp : p = .pointer none ∨ p = .pointer (some ⟨b, 0, none⟩)) :
    Calls Tryz.prog 61 #[.pointer (some ⟨b, 0, none⟩)] w fun e w' => e = .returned (.tuple #[]) ∧ BldAt w' b (.pointer (some ⟨b, 0, none⟩)) v l ∧ Fr [b] w w' := by
  have c0 := cell_of_blk h.blk 0
  rcases hp with rfl | rfl
  · refine (Go.Proofs.Any.Builder_copyCheck_fresh (ρ := Tryz.lays156_ren) { lays166 with } Tryz.Builder_Extra_156.toX72 b w c0 (by simp [World.shape?, h.blk]; rfl) (free_of_blk h.blk 0)).mono ?_
    rintro e w' ⟨rfl, rfl⟩
    have f : Fr [b] w (w.setCell ⟨b, 0, none⟩ (.pointer (some ⟨b, 0, none⟩))) := Fr.setCell _ _ (by simp)
    refine ⟨rfl, ⟨?_, row_fr h.row f (fun g hg => by simp; rintro rfl; exact h.ne hg), h.ne⟩, f⟩
    have := heap_setCell_same (i := 0) (.pointer (some ⟨b, 0, none⟩)) h.blk
    simpa using this
  · refine (Go.Proofs.Any.Builder_copyCheck_used (ρ := Tryz.lays156_ren) { lays166 with } Tryz.Builder_Extra_156.toX72 b w c0).mono ?_
    rintro e w' ⟨rfl, rfl⟩
    exact ⟨rfl, h, Fr.refl _ _⟩

set_option maxRecDepth 100000 in
set_option maxHeartbeats 1000000 in
theorem bwrite_c (b : Nat) (p v : Value) (l : List UInt8) (s : ByteArray) (w : World) (h : BldAt w b p v l) (hp : p = .pointer none ∨ p = .pointer (some ⟨b, 0, none⟩)) (hlen : l.length + s.size ≤ 140737488355328) :
    Calls Tryz.prog 33 #[.pointer (some ⟨b, 0, none⟩), .string s] w fun e w' => e = .returned (.tuple #[.int .i64 s.size, .nilIface]) ∧ ∃ v', BldAt w' b (.pointer (some ⟨b, 0, none⟩)) v' (l ++ bts s) ∧ Upd (bldB b v) (bldB b v') w w' := by
  have hbl := blk_lt h.blk
  have CC := Lib.hid (copy_c b p v l w h hp)
  clear h hp
  go_enter Tryz.func33, Tryz.ntmps33
  go_wp2_with fail
  refine CC.out.mono ?_
  rintro e w1 ⟨rfl, h1, f1⟩
  have c1 := cell_of_blk h1.blk 1
  have HB := Lib.hid h1; have HF := Lib.hid f1
  clear h1 f1 CC
  obtain ⟨a0, n0, k0, rfl⟩ : ∃ a0 n0 k0, v = .slice a0 n0 k0 := by
    rcases HB.out.row.2 with ⟨rfl, _⟩ | ⟨g, cap, cur, rfl, _⟩
    · exact ⟨_, _, _, rfl⟩
    · exact ⟨_, _, _, rfl⟩
  go_wp2_with (first | ((with_reducible refine wpList_of_wp (o := ⟨some 14, _, _, _, _, _⟩) rfl (fun K hK => ?_)); apply stopD; case _other => exact trivial))
  (refine stopD ?_ ?_; rotate_left; exact trivial)
  refine wp_append_str (.tmp 12) (.tmp 13) rfl (.slice a0 n0 k0) l s rfl rfl HB.out.row hlen ?_
  intro ga cap w2 r2 f2 o2
  refine hK _ _ ?_
  clear hK K
  have b2 := f2.keep HB.out.blk (fun hm => HB.out.ne (by simpa using hm))
  have y2 := free_of_blk b2 1
  have d2 := cell_of_blk b2 1
  have HB2 := Lib.hid b2; have HR2 := Lib.hid r2; have HF2 := Lib.hid f2; have HO := Lib.hid o2
  clear b2 r2 f2 o2 c1
  go_wp2_with fail
  go_ret2
  have F3 : Fr [b] w2 (w2.setCell ⟨b, 1, none⟩ (.slice ga (l.length + s.size) cap)) := Fr.setCell _ _ (by simp)
  have hne : (Value.slice ga (l.length + s.size) cap).ownBlock ≠ some b := fun e => by
    rcases HO.out with h | h
    · exact HB.out.ne (h ▸ e)
    · rw [e] at h
      have := HF.out.size
      simp at h
      omega
  refine ⟨rfl, .slice ga (l.length + s.size) cap, ⟨?_, row_fr HR2.out F3 (fun g hg => by simp; rintro rfl; exact hne hg), hne⟩, ?_, ?_⟩
  · have := heap_setCell_same (i := 1) (.slice ga (l.length + s.size) cap) HB2.out
    simpa using this
  · exact ((HF.out.mono (by simp [bldB])).trans (HF2.out.mono (fun k hk => by simp [bldB]; right; simpa using hk))).trans (F3.mono (by simp [bldB]))
  · intro k hk
    simp only [bldB, List.mem_cons, Option.mem_toList] at hk ⊢
    rcases hk with hk | hk
    · exact .inl (.inl hk)
    · rcases HO.out with h | h
      · exact .inl (.inr (h ▸ hk))
      · rw [h] at hk
        have := HF.out.size
        simp at hk
        right; omega

theorem Fr.freeze {fp : List Nat} {w : World} {p : Addr} (h : p.block ∈ fp) (n : Nat) : Fr fp w (w.freeze p n) := by
  unfold World.freeze
  split
  · exact Fr.refl _ _
  · refine ⟨rfl, rfl, rfl, by simp, fun k hk hn => ?_⟩
    simp only [Array.getElem?_modify]
    rw [if_neg (by rintro rfl; exact hn h)]

set_option maxRecDepth 100000 in
set_option maxHeartbeats 2000000 in
theorem bstring_nil (b : Nat) (p : Value) (w : World) (h : BldAt w b p (.slice none 0 0) []) : Calls Tryz.prog 35 #[.pointer (some ⟨b, 0, none⟩)] w fun e w' => e = .returned (.string ⟨#[]⟩) ∧ Fr [] w w' := by
  have hUS : ∀ (W : World) (q : Option Addr), (Builtin.unsafeString_ #[117, 3] 9 #[.pointer q, .int .i64 0]).run Tryz.prog W = .ok (.string .empty) W := fun W q => Lib.run_unsafeString_none W _ _ _ q
  have hSD : ∀ W : World, (Builtin.unsafeSliceData_ #[39] 117 #[.slice none 0 0]).run Tryz.prog W = .ok (.pointer none) W := fun _ => rfl
  have HB := Lib.hid h.blk
  clear h
  go_enter Tryz.func35, Tryz.ntmps35
  go_wp2_with fail
  refine reg_tree (Fr [] w) 11 (.take 0 (.take 1 (.take 2 (.take 3 (.take 4 (.take 5 (.take 6 (.take 7 (.take 8 (.take 9 (.one 10 (.one 11 .nil)))))))))))) (by kernel_rfl) (by kernel_rfl) (by kernel_rfl) rfl ?_
  have F0 : Fr [] w w.drew := Fr.drew _ _
  generalize w.drew = WC at F0 ⊢
  iterate 10 (refine tree_take (v := ?_) rfl rfl rfl F0 (fun w hS => ?_) ?_; rotate_left; (focus (have c1 := cell_of_blk (hS.keep HB.out (by simp)) 1; clear hS; go_simp; rfl)); simp only [List.setIfInBounds_toArray, List.set_cons_succ, List.set_cons_zero])
  refine tree_one rfl rfl (fun K hK => ?_)
  go_simp
  try go_upon
  try go_simp
  refine hK _ _ F0 ?_
  clear hK K
  try simp only [Act.put, List.setIfInBounds_toArray, List.set_cons_succ, List.set_cons_zero]
  refine tree_last rfl rfl (fun K hK => ?_)
  go_simp
  try go_upon
  try go_simp
  refine hK _ _ ?_
  clear hK K
  refine noPanicN ?_
  go_wp2_with fail
  go_ret
  exact ⟨rfl, F0⟩

set_option maxRecDepth 100000 in
set_option maxHeartbeats 2000000 in
theorem bstring_c (b : Nat) (p v : Value) (l : List UInt8) (w : World) (h : BldAt w b p v l) (h0 : l ≠ []) : Calls Tryz.prog 35 #[.pointer (some ⟨b, 0, none⟩)] w fun e w' => e = .returned (.string (str l)) ∧ Fr v.ownBlock.toList w w' := by
  have hl0 : l.length ≠ 0 := by simpa using h0
  obtain ⟨g, cap, cur, rfl, hbg, hg, hnc, hcm, hcs, htake⟩ : ∃ g cap cur, v = .slice (some ⟨g, 0, none⟩) l.length cap ∧ 0 ≤ g ∧ w.heap[g]? = some (.cells cur 5 (0, 0)) ∧ l.length ≤ cap ∧ cap ≤ maxLen ∧ cur.size = cap * 1 ∧ cur.toList.take (l.length * 1) = byteCells l := by
    rcases h.row.2 with ⟨_, hz⟩ | ⟨g, cap, cur, hv, r⟩
    · exact absurd hz hl0
    · exact ⟨g, cap, cur, hv, r⟩
  have hSD : ∀ W : World, (Builtin.unsafeSliceData_ #[39] 117 #[.slice (some ⟨g, 0, none⟩) l.length cap]).run Tryz.prog W = .ok (.pointer (some ⟨g, 0, none⟩)) W := fun W => Lib.run_unsafeSliceData_row _ _ _ _ _ _ (by omega)
  have hUS : ∀ W : World, Fr [] w W → (Builtin.unsafeString_ #[117, 3] 9 #[.pointer (some ⟨g, 0, none⟩), .int .i64 l.length]).run Tryz.prog W = .ok (.string ⟨l.toArray⟩) (W.freeze ⟨g, 0, none⟩ l.length) := fun W hf => by
    have hg' := hf.keep hg (by simp)
    refine Lib.run_unsafeString_row W 117 3 9 5 Tryz.underlying117 Tryz.Builder_Extra_169.cellsByte g cur.size (by simp [World.shape?, hg']) l h0 (by omega) (by unfold maxLen at hcm; omega) ?_
    intro j x hx
    exact (row_fr h.row hf (by simp)).cells (g := g) rfl j (.int .u8 x.toNat) (by simp [Lib.byteCells, hx])
  have HB := Lib.hid h.blk; have HU := Lib.hid hUS
  have hgb : b ≠ g := fun e => h.ne (by simp [Value.ownBlock, e])
  clear h hUS hg htake hcs
  go_enter Tryz.func35, Tryz.ntmps35
  go_wp2_with fail
  refine reg_tree (Fr [g] w) 11 (.take 0 (.take 1 (.take 2 (.take 3 (.take 4 (.take 5 (.take 6 (.take 7 (.take 8 (.take 9 (.one 10 (.one 11 .nil)))))))))))) (by kernel_rfl) (by kernel_rfl) (by kernel_rfl) rfl ?_
  have F0 : Fr [] w w.drew := Fr.drew _ _
  generalize w.drew = WC at F0 ⊢
  have S0 : Fr [g] w WC := F0.mono (by simp)
  iterate 10 (refine tree_take (v := ?_) rfl rfl rfl S0 (fun w hS => ?_) ?_; rotate_left; (focus (have c1 := cell_of_blk (hS.keep HB.out (by simpa using hgb)) 1; clear hS; go_simp; rfl)); simp only [List.setIfInBounds_toArray, List.set_cons_succ, List.set_cons_zero])
  have hUC := HU.out WC F0
  have F1 : Fr [g] w (WC.freeze ⟨g, 0, none⟩ l.length) := S0.trans (Fr.freeze (by simp) _)
  refine tree_one rfl rfl (fun K hK => ?_)
  go_simp
  try go_upon
  try go_simp
  refine hK _ _ F1 ?_
  clear hK K
  try simp only [Act.put, List.setIfInBounds_toArray, List.set_cons_succ, List.set_cons_zero]
  refine tree_last rfl rfl (fun K hK => ?_)
  go_simp
  try go_upon
  try go_simp
  refine hK _ _ ?_
  clear hK K
  refine noPanicN ?_
  go_wp2_with fail
  go_ret
  exact ⟨rfl, by simpa [Value.ownBlock] using F1⟩

end Go.Proofs.YtbogljpafpkikaaGreatDoor
