/-
  The reference's digest: words rotated, the constants, a string with the bytes that are added to it.
-/
import Derived.Test.YtahfpadaoobkfaaGreatDoorQS08
namespace Go.Proofs.YtahfpadaoobkfaaGreatDoor
open Go.RowKit Go.Lib

theorem bits_or_comm (k : IntKind) (x y : Int) : bits .or k x y = bits .or k y x := by
  simp only [bits, BitVec.or_comm]
theorem ror_eq (x : Int) (n : Nat) : bits .or .u32 (x / 2 ^ n) (x * 2 ^ (32 - n) % 4294967296) = ror x n := bits_or_comm _ _ _

/-- A row that a call has made since the world w0. -/
structure RwY (w0 W : World) (e : TypeId) (v : Value) (cs : List Value) : Prop where
  row : W.ownsRow 0 e 1 v cs.length cs
  young : ∀ g, v.ownBlock = some g → w0.heap.size ≤ g
  fr : Fr [] w0 W
theorem RwY.nil (w : World) (e : TypeId) : RwY w w e (.slice none 0 0) [] := ⟨World.ownsRow_nil _ _ _ _, (fun g hg => by cases hg), Fr.refl _ _⟩
theorem RwY.same {w0 W W' : World} {e : TypeId} {v : Value} {cs : List Value} (h : RwY w0 W e v cs) (hf : Fr [] W W') : RwY w0 W' e v cs := ⟨row_fr h.row hf (by simp), h.young, h.fr.trans hf⟩
theorem RwY.val {w0 W : World} {e : TypeId} {v : Value} {cs : List Value} (h : RwY w0 W e v cs) : ∃ a c, v = .slice a cs.length c := by
  rcases h.row.2 with ⟨rfl, h0⟩ | ⟨g, cap, cur, rfl, _⟩
  · exact ⟨none, 0, by rw [h0]⟩
  · exact ⟨_, _, rfl⟩
theorem RwY.sl {w0 W : World} {e : TypeId} {v : Value} {cs : List Value} (h : RwY w0 W e v cs) : Sl W v cs.length cs := sl_of_row h.row
theorem wp_app1 {P : Program} {w w0 : World} {o : Oper} {a : Act} {K : Act → World → Prop} {Q : Exit → Act → World → Prop} (s x : Operand) (t e : TypeId) (z : Value) (bytes : Nat)
    (ho : o.op = .call { callee := .builtin .append, args := #[s, x], argTypes := #[t, t] }) (ht : P.underlying t = some (.slice e)) (hinfo : (P.info? e).map (fun i => (i.zero, i.size, i.bytes)) = some (some z, 1, bytes)) (hzs : z.cells.size = 1) (hby : bytes ≤ 8)
    (v : Value) (cs : List Value) (hs : a.eval s = v) (h : RwY w0 w e v cs) (sb c : Nat) (u : Value) (hx : a.eval x = .slice (some ⟨sb, 0, none⟩) 1 c) (hsb : w.cell? ⟨sb, 0, none⟩ = some u) (hu : u.oneCell' = true) (hlen : cs.length + 1 ≤ 10000000000000)
    (hk : ∀ ga cap w', RwY w0 w' e (.slice ga (cs.length + 1) cap) (cs ++ [u]) → Fr v.ownBlock.toList w w' → K (a.put o.dst (.slice ga (cs.length + 1) cap)) w') : o.wp P a w K Q := by
  refine wp_append_src s x t e z 1 bytes ho ht hinfo hzs (by decide) v cs.length cs hs h.row (.slice (some ⟨sb, 0, none⟩) 1 c) 1 [u] hx ⟨.inr ⟨_, c, rfl, fun j u' hu' => ?_⟩⟩ (by simp) (by simpa using hu) (by omega) (Nat.le_trans (Nat.mul_le_mul (by omega : cs.length + 1 ≤ 10000000000000) hby) (by omega)) ?_
  · match j with
    | 0 => simp only [List.getElem?_cons_zero, Option.some.injEq] at hu'; subst hu'; rw [add_at]; exact hsb
    | j + 1 => simp at hu'
  · intro ga cap w' h1 h2 h3
    refine hk ga cap w' ⟨by simpa using h1, fun g hg => ?_, h.fr.step h2 (fun i hi => .inr (h.young i (by simpa using hi)))⟩ h2
    rcases h3 with h4 | h4
    · exact h.young g (h4 ▸ hg)
    · rw [hg] at h4
      have := h.fr.size
      simp at h4; omega
/-- append of one element to a row that is not nil: the row's elements can be read behind it where they were. -/
theorem wp_app1k {P : Program} {w w0 : World} {o : Oper} {a : Act} {K : Act → World → Prop} {Q : Exit → Act → World → Prop} (s x : Operand) (t e : TypeId) (z : Value) (bytes : Nat)
    (ho : o.op = .call { callee := .builtin .append, args := #[s, x], argTypes := #[t, t] }) (ht : P.underlying t = some (.slice e)) (hinfo : (P.info? e).map (fun i => (i.zero, i.size, i.bytes)) = some (some z, 1, bytes)) (hzs : z.cells.size = 1) (hby : bytes ≤ 8)
    (g n cap : Nat) (cs : List Value) (hs : a.eval s = .slice (some ⟨g, 0, none⟩) n cap) (hn : n = cs.length) (h : RwY w0 w e (.slice (some ⟨g, 0, none⟩) n cap) cs) (sb c : Nat) (u : Value) (hx : a.eval x = .slice (some ⟨sb, 0, none⟩) 1 c) (hsb : w.cell? ⟨sb, 0, none⟩ = some u) (hu : u.oneCell' = true) (hlen : n + 1 ≤ 10000000000000)
    (hk : ∀ ga cap' w', RwY w0 w' e (.slice (some ⟨ga, 0, none⟩) (n + 1) cap') (cs ++ [u]) → (∀ j y, j < n → w.cell? ⟨g, j, none⟩ = some y → w'.cell? ⟨g, j, none⟩ = some y) → K (a.put o.dst (.slice (some ⟨ga, 0, none⟩) (n + 1) cap')) w') : o.wp P a w K Q := by
  obtain ⟨i, hi, hz0, hz1, hz2⟩ := info_parts hinfo
  have hnews : ∀ j y, [u][j]? = some y → w.cell? ((⟨sb, 0, none⟩ : Addr).add j) = some y := by
    intro j y hy
    match j with
    | 0 => simp only [List.getElem?_cons_zero, Option.some.injEq] at hy; subst hy; rw [add_at]; exact hsb
    | j + 1 => simp at hy
  obtain ⟨cur, h1, h2, h3, h4, h5⟩ : ∃ cur, w.heap[g]? = some (.cells cur e (0, 0)) ∧ cur.size = cap ∧ cur.toList.take n = cs ∧ n ≤ cap ∧ cap ≤ 9223372036854775807 := by
    rcases h.row.2 with ⟨hv, _⟩ | ⟨g', cap', cur, hv, _, hg, r1, r2, r3, r4⟩
    · cases hv
    · cases hv
      exact ⟨cur, hg, by omega, by rw [hn]; simpa using r4, by omega, r2⟩
  have hgy : w0.heap.size ≤ g := h.young g rfl
  have key : ∃ g' cap' w', (Builtin.append_ #[t, t] o.type #[.slice (some ⟨g, 0, none⟩) n cap, .slice (some ⟨sb, 0, none⟩) 1 c]).run P w = .ok (.slice (some ⟨g', 0, none⟩) (n + 1) cap') w' ∧ RwY w0 w' e (.slice (some ⟨g', 0, none⟩) (n + 1) cap') (cs ++ [u]) ∧ (∀ j y, j < n → w.cell? ⟨g, j, none⟩ = some y → w'.cell? ⟨g, j, none⟩ = some y) := by
    by_cases hroom : n + 1 ≤ cap
    · have hrun := run_append_room_cells (P := P) w t o.type e i ht hi g 0 n cap ⟨sb, 0, none⟩ 1 c [u] (by simp [hz1]) hnews (by simpa using hu) hroom
        (fun j hj => by
          simp only [List.length_cons, List.length_nil] at hj
          rw [hz1, cell_of_blk h1, Array.getElem?_eq_getElem (by omega)]; rfl)
        (fun j hj => free_of_blk h1 _)
      have e1 : w.setCells g (0 + n * i.size) [u] = w.setCell ⟨g, n, none⟩ u := by rw [hz1, Nat.mul_one, Nat.zero_add]; rfl
      rw [e1] at hrun
      have hb := heap_setCell_same (i := n) u h1
      refine ⟨g, cap, _, hrun, ⟨⟨by simp, .inr ⟨g, cap, _, by simp [hn], Nat.zero_le _, hb, by simp; omega, h5, by simp [h2], ?_⟩⟩, h.young, h.fr.step (Fr.setCell (fp := [g]) _ _ (by simp)) (fun k hk => .inr (by simp at hk; omega))⟩, fun j y hj hy => ?_⟩
      · rw [show (cs ++ [u]).length * 1 = n + 1 by simp [hn], Array.toList_setIfInBounds, List.take_succ_eq_append_getElem (by simp; omega), List.getElem_set_self, List.take_set_of_le (Nat.le_refl _), h3]
      · rw [cell_of_blk hb, Array.getElem?_setIfInBounds_ne (by omega), ← cell_of_blk h1]
        exact hy
    · have hrun := run_append_grow (P := P) w t o.type e i z ht hi hz0 ⟨g, 0, none⟩ n cap cs (by rw [hz1, Nat.mul_one, hn]) (fun j y hy => by
          rw [add_at, cell_of_blk h1, ← Array.getElem?_toList]
          have hj : j < n := by rw [hn]; exact (List.getElem?_eq_some_iff.1 hy).1
          rw [← h3, List.getElem?_take_of_lt hj] at hy
          exact hy) ⟨sb, 0, none⟩ 1 c [u] (by simp [hz1]) hnews (by omega) (by omega) (growslice_fits (by omega) (by
            rw [hz2]
            have := Nat.mul_le_mul (show n + 1 ≤ 10000000000000 by omega) hby
            omega))
      have hge := grownCap_ge w (n + 1) cap e
      have hcm := grownCap_le_maxLen w (n + 1) cap e (by simp only [maxLen]; omega)
      have f0 : Fr [] w w.drew := Fr.drew _ _
      refine ⟨_, _, _, hrun, ⟨⟨by simp, .inr ⟨w.heap.size, grownCap w (n + 1) cap e, _, by rw [show (cs ++ [u]).length = n + 1 by simp [hn]], Nat.zero_le _, heap_alloc_new w.drew _, by rw [show (cs ++ [u]).length = n + 1 by simp [hn]]; exact hge, (by have h9 : maxLen = 9223372036854775807 := rfl; omega), ?_, ?_⟩⟩, fun k hk => ?_, h.fr.trans (f0.trans (Fr.alloc _ _ _))⟩, fun j y hj hy => (f0.trans (Fr.alloc _ _ _)).cel hy (by simp)⟩
      · simp only [Array.size_append, List.size_toArray, size_zeroCells, hzs, List.length_cons, List.length_nil]
        omega
      · simp only [Array.toList_append]
        rw [List.take_left' (by simp)]
      · cases hk
        exact Nat.le_trans h.fr.size f0.size
  obtain ⟨g', cap', w', hrun, hr2, hf⟩ := key
  unfold Oper.wp execOp
  simp only [ho, resolve, invoke, builtin, Sem.run_bind, Sem.run_pure, Result.andThen_ok, List.map_toArray, List.map_cons, List.map_nil, hs, hx, hrun]
  exact hk g' cap' w' hr2 hf
theorem infoU32 : (Tryz.prog.info? 225).map (fun i => (i.zero, i.size, i.bytes)) = some (some (.int .u32 0), 1, 4) := by kernel_rfl
def lenV2 : Value → Nat
  | .slice _ n _ => n
  | _ => 0
abbrev u32C (l : List Int) : List Value := l.map (Value.int .u32)

set_option maxRecDepth 100000 in
theorem rot2_c (x : Int) (n : Nat) (hn : 1 ≤ n ∧ n ≤ 31) (w : World) : Calls Tryz.prog 162 #[.int .u32 x, .int .i64 n] w fun e w' => e = .returned (.int .u32 (ror x n)) ∧ Fr [] w w' := by
  have HR : Shut (bits .or .u32 (x / 2 ^ n) (x * 2 ^ (32 - n) % 4294967296) = ror x n) := ⟨ror_eq x n⟩
  have e4 : (min ((32 : Int) - n).toNat 32) = 32 - n := by omega
  have e5 : (min ((n : Nat) : Int).toNat 32) = n := by omega
  go_enter Tryz.func162, Tryz.ntmps162
  go_wp2_with fail
  refine reg_tree (Fr [] w) 8 (.take 0 (.take 1 (.take 2 (.take 3 (.take 4 (.take 5 (.take 6 (.take 7 (.one 8 .nil))))))))) (by kernel_rfl) (by kernel_rfl) (by kernel_rfl) rfl ?_
  have F0 : Fr [] w w.drew := Fr.drew _ _
  generalize w.drew = WC at F0 ⊢
  iterate 5 (refine tree_take (v := ?_) rfl rfl rfl F0 (fun w hS => ?_) ?_; rotate_left; (focus (clear hS; go_simp; rfl)); simp only [List.setIfInBounds_toArray, List.set_cons_succ, List.set_cons_zero])
  (refine tree_take (v := ?_) rfl rfl rfl F0 (fun w hS => ?_) ?_; rotate_left; (focus (clear hS; go_simp; rw [IntWalk.i64_in (32 - (n : Int)) (by omega)])); simp only [List.setIfInBounds_toArray, List.set_cons_succ, List.set_cons_zero])
  (refine tree_take (v := ?_) rfl rfl rfl F0 (fun w hS => ?_) ?_; rotate_left; (focus (clear hS; go_simp; rfl)); simp only [List.setIfInBounds_toArray, List.set_cons_succ, List.set_cons_zero])
  (refine tree_take (v := ?_) rfl rfl rfl F0 (fun w hS => ?_) ?_; rotate_left; (focus (clear hS; go_simp; rfl)); simp only [List.setIfInBounds_toArray, List.set_cons_succ, List.set_cons_zero])
  refine tree_last rfl rfl (fun K hK => ?_)
  go_simp
  try go_upon
  try go_simp
  refine hK _ _ ?_
  clear hK K
  refine noPanicN ?_
  go_wp2_with fail
  go_ret
  exact ⟨by rw [← HR.out]; rfl, F0⟩

set_option maxRecDepth 100000 in
theorem const2_c (w : World) : Calls Tryz.prog 163 #[] w fun e w' => ∃ b, e = .returned (.slice (some ⟨b, 0, none⟩) 64 64) ∧ w'.heap[b]? = some (.cells (u32A kTab) 225 (0, 0)) ∧ w.heap.size ≤ b ∧ Fr [] w w' := by
  go_enter Tryz.func163, Tryz.ntmps163
  go_wp2_with fail
  go_ret
  exact ⟨_, rfl, heap_alloc_new _ _, Nat.le_refl _, Fr.alloc _ _ _⟩

theorem bI_take {s : List UInt8} {k : Nat} (h : k < s.length) : (bI s).take (k + 1) = (bI s).take k ++ [(s[k].toNat : Int)] := by
  rw [List.take_succ_eq_append_getElem (by rw [bI_len]; exact h)]
  simp [bI]
set_option maxRecDepth 100000 in
set_option maxHeartbeats 1000000 in
theorem ext2_c (s : ByteArray) (hs : s.size ≤ 1000000000000) (w : World) : Calls Tryz.prog 129 #[.string s] w fun e w' => ∃ ga cap, e = .returned (.slice ga (padL (bI s.data.toList)).length cap) ∧ RwY w w' 5 (.slice ga (padL (bI s.data.toList)).length cap) (u8C (padL (bI s.data.toList))) := by
  go_enter Tryz.func129, Tryz.ntmps129
  go_wp2_with fail
  go_loopw [3, 4] (fun v i wr => ∃ k : Nat, i = .int .i64 k ∧ k ≤ s.size ∧ Hid (RwY w wr 5 v (u8C ((bI s.data.toList).take k)))) (fun _ i _ => s.size - (RowKit.intOf i).toNat)
  case atStart => exact ⟨0, rfl, Nat.zero_le _, Lib.hid (RwY.nil _ _)⟩
  case round =>
    obtain ⟨k, rfl, hk, H⟩ := hrel
    have hlk : (u8C ((bI s.data.toList).take k)).length = k := by simp only [u8C, List.length_map, List.length_take, bI_len]; exact Nat.min_eq_left hk
    have HLk := Lib.hid hlk
    obtain ⟨va, vc, rfl⟩ := H.out.val
    rw [hlk] at H ⊢
    clear hlk
    by_cases hlt : k < s.size
    · have hT : (bI s.data.toList).take (k + 1) = (bI s.data.toList).take k ++ [(s[k].toNat : Int)] := bI_take (s := s.data.toList) hlt
      have HT := Lib.hid hT
      clear hT
      go_wp2_with (first | ((with_reducible refine wpList_of_wp (o := ⟨some 17, _, _, _, _, _⟩) rfl (fun K hK => ?_)); apply stopD; case _other => exact trivial))
      (refine stopD ?_ ?_; rotate_left; exact trivial)
      refine wp_app1 (.tmp 12) (.tmp 16) 160 5 (.int .u8 0) 1 rfl Tryz.underlying160 infoBy rfl (by omega) (.slice va k vc) _ rfl (H.out.same (Fr.alloc [] wr (.cells #[.int .u8 (s[k].toNat : Int)] 5))) wr.heap.size 1 (.int .u8 (s[k].toNat : Int)) rfl (cell_of_blk (heap_alloc_new wr (.cells #[.int .u8 (s[k].toNat : Int)] 5)) 0) rfl (by rw [HLk.out]; omega) ?_
      intro ga cap2 W4 r4 _
      refine hK _ _ ?_
      clear hK K
      rw [HLk.out] at r4 ⊢
      have H4 : Hid (RwY w W4 5 (.slice ga (k + 1) cap2) (u8C ((bI s.data.toList).take (k + 1)))) := Lib.hid (by rw [HT.out, u8C, List.map_append]; exact r4)
      clear r4 HT H HLk
      go_wp2_with fail
      go_roundw
      case rel => exact ⟨k + 1, by go_num, hlt, H4⟩
      case measure => simp [RowKit.intOf]; omega
    · obtain rfl : k = s.size := by omega
      have e0 : (bI s.data.toList).take s.size = bI s.data.toList := List.take_of_length_le (by rw [bI_len]; exact Nat.le_refl _)
      rw [e0] at H HLk
      have HE := Lib.hid (show (bI s.data.toList).length = s.size from bI_len _)
      clear e0
      generalize hB : bI s.data.toList = B at *
      have HBq : Shut (bI s.data.toList = B) := ⟨hB⟩
      clear hB
      go_wp2_with (first | ((with_reducible refine wpList_of_wp (o := ⟨some 20, _, _, _, _, _⟩) rfl (fun K hK => ?_)); apply stopD; case _other => exact trivial))
      (refine stopD ?_ ?_; rotate_left; exact trivial)
      refine wp_app1 (.tmp 18) (.tmp 19) 160 5 (.int .u8 0) 1 rfl Tryz.underlying160 infoBy rfl (by omega) (.slice va s.size vc) _ rfl (H.out.same (Fr.alloc [] wr (.cells #[.int .u8 128] 5))) wr.heap.size 1 (.int .u8 128) rfl (cell_of_blk (heap_alloc_new wr (.cells #[.int .u8 128] 5)) 0) rfl (by rw [HLk.out]; omega) ?_
      intro ga cap2 W4 r4 _
      refine hK _ _ ?_
      clear hK K
      rw [HLk.out] at r4 ⊢
      have H4 : Hid (RwY w W4 5 (.slice ga (s.size + 1) cap2) (u8C ((B ++ [128]) ++ List.replicate 0 0))) := Lib.hid (by rw [List.replicate_zero, List.append_nil, u8C, List.map_append]; exact r4)
      clear r4 H HLk
      go_wp2_with fail
      go_loopw [3] (fun v wr => ∃ k : Nat, ∃ ga cap, k ≤ zN s.size ∧ v = .slice ga (s.size + 1 + k) cap ∧ Hid (RwY w wr 5 (.slice ga (s.size + 1 + k) cap) (u8C ((B ++ [128]) ++ List.replicate k 0)))) (fun v _ => s.size + 100 - lenV2 v)
      case atStart => exact ⟨0, ga, cap2, Nat.zero_le _, rfl, H4⟩
      case round =>
        obtain ⟨k, ga, cap, hk, rfl, H5⟩ := hrel
        have hz : zN s.size < 64 := Nat.mod_lt _ (by omega)
        have HL5 : Hid ((u8C ((B ++ [128]) ++ List.replicate k 0)).length = s.size + 1 + k) := Lib.hid (by simp [HE.out]; omega)
        by_cases hlt : k < zN s.size
        · have hmod : (s.size + 1 + k) % 64 ≠ 56 := by unfold zN at hlt; omega
          go_wp2_with (first | ((with_reducible refine wpList_of_wp (o := ⟨some 27, _, _, _, _, _⟩) rfl (fun K hK => ?_)); apply stopD; case _other => exact trivial))
          (refine stopD ?_ ?_; rotate_left; exact trivial)
          refine wp_app1 (.tmp 25) (.tmp 26) 160 5 (.int .u8 0) 1 rfl Tryz.underlying160 infoBy rfl (by omega) (.slice ga (s.size + 1 + k) cap) _ rfl (H5.out.same (Fr.alloc [] wr (.cells #[.int .u8 0] 5))) wr.heap.size 1 (.int .u8 0) rfl (cell_of_blk (heap_alloc_new wr (.cells #[.int .u8 0] 5)) 0) rfl (by rw [HL5.out]; omega) ?_
          intro gb capb W6 r6 _
          refine hK _ _ ?_
          clear hK K
          rw [HL5.out] at r6 ⊢
          have H6 : Hid (RwY w W6 5 (.slice gb (s.size + 1 + (k + 1)) capb) (u8C ((B ++ [128]) ++ List.replicate (k + 1) 0))) := Lib.hid (by rw [List.replicate_succ', ← List.append_assoc, u8C, List.map_append]; exact r6)
          clear r6 H5 HL5
          go_wp2_with fail
          go_roundw
          case rel => exact ⟨k + 1, gb, capb, by omega, rfl, H6⟩
          case measure => simp [lenV2]; omega
        · have hp1 : (B ++ [128]) ++ List.replicate k 0 = pad1 B := by rw [pad1, HE.out, show k = zN s.size by omega]
          rw [hp1] at H5 HL5
          clear hp1
          generalize hq : s.size + 1 + k = q at *
          have hqb : q ≤ 1000000000100 := by omega
          have HQ : Hid (q = s.size + 1 + zN s.size) := Lib.hid (by omega)
          clear hq hk
          have hq56 : q % 64 = 56 := by have := HQ.out; unfold zN at this; omega
          have hm1 : q % 64 ≤ 56 := by omega
          have hm2 : 56 ≤ q % 64 := by omega
          have hbf : ((q : Int) % 64 != 56) = false := by
            have : (q : Int) % 64 = 56 := by omega
            rw [this]; rfl
          clear hq56
          go_wp2_with fail
          clear hbf hm1 hm2
          go_loopw [3, 5] (fun v i wr => ∃ j : Nat, ∃ ga cap, j ≤ 8 ∧ v = .slice ga (q + j) cap ∧ i = .int .i64 (7 - (j : Int)) ∧ Hid (RwY w wr 5 (.slice ga (q + j) cap) (u8C (pad1 B ++ (len8 (8 * (s.size : Int))).take j)))) (fun _ i _ => (RowKit.intOf i + 1).toNat)
          case atStart => exact ⟨0, ga, cap, Nat.zero_le _, rfl, rfl, by rw [List.take_zero, List.append_nil]; exact H5⟩
          case round =>
            obtain ⟨j, ga, cap, hj, rfl, rfl, H7⟩ := hrel
            have HL7 : Hid ((u8C (pad1 B ++ (len8 (8 * (s.size : Int))).take j)).length = q + j) := Lib.hid (by
              have h1 := HL5.out
              simp only [u8C, List.length_map] at h1 ⊢
              rw [List.length_append, h1, List.length_take]
              show q + min j 8 = q + j
              omega)
            by_cases hj8 : j < 8
            · have hm : min (8 * (7 - (j : Int))).toNat 64 = 56 - 8 * j := by omega
              go_wp2_with (first | ((with_reducible refine wpList_of_wp (o := ⟨some 41, _, _, _, _, _⟩) rfl (fun K hK => ?_)); apply stopD; case _other => exact trivial))
              (refine stopD ?_ ?_; rotate_left; exact trivial)
              refine wp_app1 (.tmp 32) (.tmp 40) 160 5 (.int .u8 0) 1 rfl Tryz.underlying160 infoBy rfl (by omega) (.slice ga (q + j) cap) _ rfl (H7.out.same (Fr.alloc [] wr (.cells #[.int .u8 (8 * (s.size : Int) / 2 ^ (8 * (7 - j)) % 256)] 5))) wr.heap.size 1 (.int .u8 (8 * (s.size : Int) / 2 ^ (8 * (7 - j)) % 256)) rfl (cell_of_blk (heap_alloc_new wr (.cells #[.int .u8 (8 * (s.size : Int) / 2 ^ (8 * (7 - j)) % 256)] 5)) 0) rfl (by rw [HL7.out]; omega) ?_
              intro gb capb W8 r8 _
              refine hK _ _ ?_
              clear hK K hm
              rw [HL7.out] at r8 ⊢
              have H8 : Hid (RwY w W8 5 (.slice gb (q + (j + 1)) capb) (u8C (pad1 B ++ (len8 (8 * (s.size : Int))).take (j + 1)))) := Lib.hid (by rw [len8_take _ hj8, ← List.append_assoc, u8C, List.map_append]; exact r8)
              clear r8 H7 HL7
              go_wp2_with fail
              go_roundw
              case rel => exact ⟨j + 1, gb, capb, by omega, rfl, congrArg (Value.int .i64) (by omega), H8⟩
              case measure => simp [RowKit.intOf]; omega
            · obtain rfl : j = 8 := by omega
              have e2 : pad1 B ++ (len8 (8 * (s.size : Int))).take 8 = padL B := by
                rw [List.take_of_length_le (by simp [len8]), padL, HE.out]
              rw [e2] at H7 HL7
              have e3 : (padL B).length = q + 8 := by have := HL7.out; simpa [u8C] using this
              have H9 := Lib.hid (show ∃ ga' cap', Ending.returned (Value.slice ga (q + 8) cap) = Ending.returned (Value.slice ga' (padL B).length cap') ∧ RwY w wr 5 (.slice ga' (padL B).length cap') (u8C (padL B)) from ⟨ga, cap, by rw [e3], by rw [e3]; exact H7.out⟩)
              clear e2 e3 H7 HL7 HL5 H5 HQ HE
              go_wp2_with fail
              go_ret
              rw [HBq.out]
              exact H9.out

end Go.Proofs.YtahfpadaoobkfaaGreatDoor
