/-
  slices.Clone and slices.Delete at findings.
-/
import Derived.Test.YtfidioedjmjddaaGreatQSD
namespace Go.Proofs.YtfidioedjmjddaaGreat
open Go.RowKit Go.Lib Go.Maps

theorem infoFd : (Tryz.prog.info? 62).map (fun i => (i.zero, i.size, i.bytes)) = some (some (.agg #[.int .i64 0, .bool false, .int .i64 0, .int .i64 0]), 4, 32) := by kernel_rfl
theorem fdC_one (l : List Fd) : ∀ u, u ∈ l.flatMap fdC → u.oneCell' = true := by
  intro u hu
  obtain ⟨x, _, hx⟩ := List.mem_flatMap.1 hu
  simp only [fdC, List.mem_cons, List.not_mem_nil, or_false] at hx
  rcases hx with rfl | rfl | rfl | rfl <;> rfl
theorem fdC_len (l : List Fd) : (l.flatMap fdC).length = l.length * 4 := flat_len (enc := fdC) (k := 4) (fun _ => rfl) l

/-- A row of findings of the call's own. -/
abbrev FdRow (w : World) (v : Value) (l : List Fd) : Prop := w.ownsRow 0 62 4 v l.length (l.flatMap fdC)

/-- append where there is room: the same block. -/
theorem wp_append_room {P : Program} {w : World} {o : Oper} {a : Act} {K : Act → World → Prop} {Q : Exit → Act → World → Prop} (s x : Operand) (t e : TypeId) (z : Value) (size bytes : Nat)
    (ho : o.op = .call { callee := .builtin .append, args := #[s, x], argTypes := #[t, t] }) (ht : P.underlying t = some (.slice e)) (hinfo : (P.info? e).map (fun i => (i.zero, i.size, i.bytes)) = some (some z, size, bytes))
    (g n cap : Nat) (cur : Array Value) (hs : a.eval s = .slice (some ⟨g, 0, none⟩) n cap) (hg : w.heap[g]? = some (.cells cur e (0, 0)))
    (ad : Addr) (m c : Nat) (news : List Value) (hx : a.eval x = .slice (some ad) m c) (hnews : ∀ j u, news[j]? = some u → w.cell? (ad.add j) = some u) (hl : news.length = m * size) (h1 : ∀ u, u ∈ news → u.oneCell' = true)
    (hroom : n + m ≤ cap) (hfit : n * size + news.length ≤ cur.size)
    (h : ∀ ds : Array Value, ds.size = cur.size → ds.toList.take ((n + m) * size) = cur.toList.take (n * size) ++ news → K (a.put o.dst (.slice (some ⟨g, 0, none⟩) (n + m) cap)) (w.setRow g ds)) : o.wp P a w K Q := by
  obtain ⟨i, hi, _, hz1, _⟩ := info_parts hinfo
  subst hz1
  have hr := run_append_room (P := P) w t o.type e i ht hi g n cap cur hg ad m c news hl hnews h1 hroom hfit
  unfold Oper.wp execOp
  simp only [ho, resolve, invoke, builtin, Sem.run_bind, Sem.run_pure, Result.andThen_ok, List.map_toArray, List.map_cons, List.map_nil, hs, hx, hr]
  have hln : (cur.toList.take (n * i.size) ++ news).length = (n + m) * i.size := by
    rw [List.length_append, List.length_take, hl, Nat.add_mul, Array.length_toList]; omega
  refine h _ ?_ ?_
  · simp only [List.size_toArray, List.length_append, List.length_take, List.length_drop, Array.length_toList]; omega
  · rw [← hln]
    exact List.take_left

theorem eqNil_fd (w : World) : (binOp .eql 34 (.slice none 0 0) (.slice none 0 0)).run Tryz.prog w = .ok (.bool true) w := by kernel_rfl
theorem eqSome_fd (w : World) (a : Addr) (n c : Nat) : (binOp .eql 34 (.slice (some a) n c) (.slice none 0 0)).run Tryz.prog w = .ok (.bool false) w := by kernel_rfl

set_option maxRecDepth 100000 in
set_option maxHeartbeats 1000000 in
theorem clone_c (v : Value) (l : List Fd) (w : World) (h : FdRow w v l) (hl : l.length ≤ 1000) : Calls Tryz.prog 47 #[v] w fun e w' => ∃ v', e = .returned v' ∧ FdRow w' v' l ∧ Fr [] w w' ∧ ∀ g, v'.ownBlock = some g → w.heap.size ≤ g := by
  rcases h.2 with ⟨rfl, hz⟩ | ⟨gb, cap, cur, rfl, hbase, hgb, r1, r2, r3, r4⟩
  · have hss : l = [] := List.eq_nil_of_length_eq_zero hz
    subst hss
    have hq := eqNil_fd
    go_enter Tryz.func47, Tryz.ntmps47
    go_wp2_with fail
    go_ret
    exact ⟨_, rfl, h, Fr.refl _ _, fun g hg => by cases hg⟩
  · have HS := Lib.hid (srcAt_of_row (ownsRow_keep (w' := w.alloc (.cells #[] 62)) h fun g hg => Below.heap_alloc _ _ _ (ownsRow_lt h hg)))
    have HL := Lib.hid (fdC_len l)
    have H1 := Lib.hid (fdC_one l)
    clear h hgb r3 r4
    have hq := eqSome_fd
    go_enter Tryz.func47, Tryz.ntmps47
    go_wp2_with (first | ((with_reducible refine wpList_of_wp (o := ⟨some 7, _, _, _, _, _⟩) rfl (fun K hK => ?_)); refine wp_append_src (.tmp 5) (.tmp 6) 34 62 (.agg #[.int .i64 0, .bool false, .int .i64 0, .int .i64 0]) 4 32 rfl Tryz.underlying34 infoFd rfl (by decide) (.slice (some ⟨w.heap.size, 0, none⟩) 0 0) 0 [] rfl (World.ownsRow_lit w #[] 0 (Nat.zero_le _) (by decide) rfl) _ l.length _ rfl HS.out HL.out H1.out (by omega) (by omega) (fun ga cap2 w9 x1 x2 x3 => hK _ _ ?_); have X1 := Lib.hid x1; have X2 := Lib.hid x2; have X3 := Lib.hid x3; clear x1 x2 x3 hK K))
    go_ret
    have x3 := X3.out
    simp only [Nat.zero_add] at x3
    refine ⟨.slice ga l.length cap2, rfl, by simpa using X1.out, (Fr.alloc _ _ _).step X2.out (fun i hi => by simp [Value.ownBlock] at hi; exact .inr (by omega)), fun g hg => ?_⟩
    rcases x3 with h | h
    · rw [h] at hg; simp [Value.ownBlock] at hg; omega
    · rw [h] at hg; simp at hg; omega

theorem addr_add (b off j : Nat) : (⟨b, off, none⟩ : Addr).add j = ⟨b, off + j, none⟩ := by
  unfold Addr.add
  split
  · rename_i h; subst h; rfl
  · rfl
theorem flat_drop : ∀ (l : List Fd) (k : Nat), (l.drop k).flatMap fdC = (l.flatMap fdC).drop (k * 4)
  | [], k => by simp
  | x :: l, 0 => by simp
  | x :: l, k + 1 => by
    rw [List.drop_succ_cons, flat_drop l k, List.flatMap_cons, show (k + 1) * 4 = (fdC x).length + k * 4 by simp [fdC]; omega, List.drop_append]
    simp
theorem flat_take : ∀ (l : List Fd) (k : Nat), (l.take k).flatMap fdC = (l.flatMap fdC).take (k * 4)
  | [], k => by simp
  | x :: l, 0 => by simp
  | x :: l, k + 1 => by
    rw [List.take_succ_cons, List.flatMap_cons, flat_take l k, List.flatMap_cons, show (k + 1) * 4 = (fdC x).length + k * 4 by simp [fdC]; omega, List.take_append]
    simp [List.take_of_length_le]
theorem erase_flat (l : List Fd) (k : Nat) (_h : k < l.length) : (l.eraseIdx k).flatMap fdC = (l.take k).flatMap fdC ++ (l.drop (k + 1)).flatMap fdC := by
  rw [List.eraseIdx_eq_take_drop_succ, List.flatMap_append]

set_option maxRecDepth 100000 in
set_option maxHeartbeats 4000000 in
theorem delete_c (g cap : Nat) (l : List Fd) (k : Nat) (w : World) (h : FdRow w (.slice (some ⟨g, 0, none⟩) l.length cap) l) (hk : k < l.length) (hl : l.length ≤ 1000) :
    Calls Tryz.prog 46 #[.slice (some ⟨g, 0, none⟩) l.length cap, .int .i64 k, .int .i64 (k + 1 : Nat)] w fun e w' => e = .returned (.slice (some ⟨g, 0, none⟩) (l.length - 1) cap) ∧ FdRow w' (.slice (some ⟨g, 0, none⟩) (l.length - 1) cap) (l.eraseIdx k) ∧ Fr [g] w w' := by
  rcases h.2 with ⟨h0, _⟩ | ⟨g', cap', cur, hv, _, hg, r1, r2, r3, r4⟩
  · cases h0
  · cases hv
    have hln := fdC_len l
    have hcur : ∀ j u, (l.flatMap fdC)[j]? = some u → cur[j]? = some u := fun j u hu => by
      have hj : j < (l.flatMap fdC).length := (List.getElem?_eq_some_iff.1 hu).1
      rw [← r4, List.getElem?_take_of_lt (by omega), Array.getElem?_toList] at hu
      exact hu
    have hkl : k + (l.length - (k + 1)) = l.length - 1 := by omega
    have hnl : ((l.drop (k + 1)).flatMap fdC).length = (l.length - (k + 1)) * 4 := by rw [fdC_len]; simp
    have hnw : ∀ j u, ((l.drop (k + 1)).flatMap fdC)[j]? = some u → cur[(k + 1) * 4 + j]? = some u := fun j u hu => hcur _ u (by rw [flat_drop, List.getElem?_drop] at hu; exact hu)
    have HG : Hid (w.drew.heap[g]? = some (.cells cur 62 (0, 0))) := Lib.hid hg
    have HNL := Lib.hid hnl; have HNW := Lib.hid hnw; have HO := Lib.hid (fdC_one (l.drop (k + 1)))
    have HT : Hid (cur.toList.take (k * 4) = (l.take k).flatMap fdC) := Lib.hid (by
      rw [flat_take, ← r4, List.take_take, Nat.min_eq_left (by omega)])
    have HE := Lib.hid (erase_flat l k hk)
    have hlt : (l.take k).length = k := by simp; omega
    have HTL : Hid (((l.take k).flatMap fdC).length = k * 4) := Lib.hid (by rw [fdC_len, hlt])
    clear hnl hnw hcur hln h r4 hlt
    have hr3 : k * 4 + (l.length - (k + 1)) * 4 ≤ cur.size := by omega
    have hkc : k ≤ cap := by omega
    have hk1 : k + 1 ≤ l.length := hk
    have hki : (0 : Int) ≤ (k : Int) + 1 := by omega
    have hki2 : (k : Int) + 1 ≤ (l.length : Int) := by omega
    by_cases hc : k + 1 = cap
    · subst hc
      have hle : l.length = k + 1 := by omega
      have hel : (l.eraseIdx k).length = k := by rw [List.length_eraseIdx, if_pos hk]; omega
      have hdr : l.drop (k + 1) = [] := List.drop_of_length_le (by omega)
      have HEE : Hid ((l.eraseIdx k).flatMap fdC = (l.take k).flatMap fdC) := Lib.hid (by rw [HE.out, hdr]; simp)
      simp only [FdRow, hel, hle, Nat.add_sub_cancel]
      have HEL := Lib.hid hel
      have hk4 : k * 4 ≤ cur.size := by omega
      have hkk : (k : Int) ≤ (k : Int) + 1 := by omega
      have hkn : k ≤ k + 1 := by omega
      have hkd : k + 1 - k = 1 := by omega
      have hkz : ¬ (k + 1 = k) := by omega
      clear hel hle hdr hki2 hk1 hkl HNL HNW HO HE hr3 hl hk r1
      go_enter Tryz.func46, Tryz.ntmps46
      go_wp2_with fail
      go_region_law (refine step_of_wp rfl (wp_append_room (.tmp 22) (.tmp 25) 34 62 (.agg #[.int .i64 0, .bool false, .int .i64 0, .int .i64 0]) 4 32 rfl Tryz.underlying34 infoFd g k (k + 1) cur rfl HG.out ⟨g, 0, none⟩ 0 0 [] rfl (by simp) rfl (by simp) (by omega) (by simpa using hk4) ?_); intro ds hds htk; rw [Nat.add_zero, List.append_nil] at htk; rw [Nat.add_zero])
      all_goals
        have KD := Lib.hid (setRow_heap w.drew g cur ds 62 (0, 0) HG.out)
        have FD := Lib.hid (Fr.setRow (fp := [g]) w.drew ds (by simp : g ∈ [g]))
        have HTK := Lib.hid htk
        clear htk
        generalize w.drew.setRow g ds = W1 at *
        go_wp2_with (first | ((with_reducible refine wpList_of_wp (o := ⟨none, _, _, _, _, _⟩) rfl (fun K hK => ?_)); refine wp_clear_off (.tmp 31) 34 62 (.agg #[.int .i64 0, .bool false, .int .i64 0, .int .i64 0]) rfl Tryz.underlying34 zeroFd (by simp [Value.cells, Value.oneCell']) g (k * 4) 1 1 ds 62 (by first | rfl | simp) KD.out (by show k * 4 + 1 * 4 ≤ ds.size; omega) (by decide) (fun cs hcs hpre => hK _ _ ?_); have KC := Lib.hid (setRow_heap W1 g ds cs 62 (0, 0) KD.out); have FC := Lib.hid (Fr.setRow (fp := [g]) W1 cs (by simp : g ∈ [g])); clear hK K))
        go_ret
        refine ⟨rfl, ?_, ((Fr.drew _ _).trans FD.out).trans FC.out⟩
        refine ⟨by rw [fdC_len, HEL.out], .inr ⟨g, k + 1, cs, rfl, Nat.zero_le _, KC.out, by omega, r2, by omega, ?_⟩⟩
        rw [HEE.out, ← HT.out, ← HTK.out]
        apply List.ext_getElem?
        intro q
        by_cases hq : q < k * 4
        · rw [List.getElem?_take_of_lt hq, List.getElem?_take_of_lt hq, Array.getElem?_toList, Array.getElem?_toList, hpre q hq]
        · rw [List.getElem?_take_eq_none (by omega), List.getElem?_take_eq_none (by omega)]
    · have hc' : ¬ cap = k + 1 := fun h => hc h.symm
      go_enter Tryz.func46, Tryz.ntmps46
      go_wp2_with fail
      go_region_law (refine step_of_wp rfl (wp_append_room (.tmp 22) (.tmp 25) 34 62 (.agg #[.int .i64 0, .bool false, .int .i64 0, .int .i64 0]) 4 32 rfl Tryz.underlying34 infoFd g k cap cur rfl HG.out ⟨g, (k + 1) * 4, none⟩ (l.length - (k + 1)) (cap - (k + 1)) ((l.drop (k + 1)).flatMap fdC) rfl (fun j u hu => by rw [addr_add, cell_of_blk HG.out]; exact HNW.out j u hu) HNL.out HO.out (by omega) (by rw [HNL.out]; exact hr3) ?_); intro ds hds htk; rw [hkl] at htk; rw [hkl])
      all_goals
        have KD := Lib.hid (setRow_heap w.drew g cur ds 62 (0, 0) HG.out)
        have FD := Lib.hid (Fr.setRow (fp := [g]) w.drew ds (by simp : g ∈ [g]))
        have HTK := Lib.hid htk
        clear htk
        generalize w.drew.setRow g ds = W1 at *
        have hl1 : ((l.length - 1 : Nat) : Int) ≤ (l.length : Int) := by omega
        have hl2 : l.length - 1 ≤ l.length := by omega
        have hl3 : l.length - (l.length - 1) = 1 := by omega
        have hl4 : ¬ cap = l.length - 1 := by omega
        go_wp2_with (first | ((with_reducible refine wpList_of_wp (o := ⟨none, _, _, _, _, _⟩) rfl (fun K hK => ?_)); refine wp_clear_off (.tmp 31) 34 62 (.agg #[.int .i64 0, .bool false, .int .i64 0, .int .i64 0]) rfl Tryz.underlying34 zeroFd (by simp [Value.cells, Value.oneCell']) g ((l.length - 1) * 4) 1 (cap - (l.length - 1)) ds 62 (by first | rfl | simp [hl3]) KD.out (by show (l.length - 1) * 4 + 1 * 4 ≤ ds.size; omega) (by decide) (fun cs hcs hpre => hK _ _ ?_); have KC := Lib.hid (setRow_heap W1 g ds cs 62 (0, 0) KD.out); have FC := Lib.hid (Fr.setRow (fp := [g]) W1 cs (by simp : g ∈ [g])); clear hK K))
        go_ret
        refine ⟨rfl, ?_, ((Fr.drew _ _).trans FD.out).trans FC.out⟩
        have hel : (l.eraseIdx k).length = l.length - 1 := by rw [List.length_eraseIdx, if_pos hk]
        rw [FdRow, hel]
        refine ⟨by rw [fdC_len, hel], .inr ⟨g, cap, cs, rfl, Nat.zero_le _, KC.out, by omega, r2, by omega, ?_⟩⟩
        rw [HE.out, ← HT.out, ← HTK.out]
        apply List.ext_getElem?
        intro q
        by_cases hq : q < (l.length - 1) * 4
        · rw [List.getElem?_take_of_lt hq, List.getElem?_take_of_lt hq, Array.getElem?_toList, Array.getElem?_toList, hpre q hq]
        · rw [List.getElem?_take_eq_none (by omega), List.getElem?_take_eq_none (by omega)]

end Go.Proofs.YtfidioedjmjddaaGreat
