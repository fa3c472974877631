/-
  slices.Clone and slices.Delete at findings.
-/
import Derived.Test.YtahfpadaoobkfaaGreatDoorQS16
namespace Go.Proofs.YtahfpadaoobkfaaGreatDoor
open Go.RowKit Go.Lib Go.Maps

theorem infoFd : (Tryz.prog.info? 98).map (fun i => (i.zero, i.size, i.bytes)) = some (some (.agg #[.int .i64 0, .bool false, .int .i64 0, .int .i64 0]), 4, 32) := by kernel_rfl
theorem fdC_one (l : List Fd) : ∀ u, u ∈ l.flatMap fdC → u.oneCell' = true := by
  intro u hu
  obtain ⟨x, _, hx⟩ := List.mem_flatMap.1 hu
  simp only [fdC, List.mem_cons, List.not_mem_nil, or_false] at hx
  rcases hx with rfl | rfl | rfl | rfl <;> rfl
theorem fdC_len (l : List Fd) : (l.flatMap fdC).length = l.length * 4 := flat_len (enc := fdC) (k := 4) (fun _ => rfl) l

/-- A row of findings of the call's own. -/
abbrev FdRow (w : World) (v : Value) (l : List Fd) : Prop := w.ownsRow 0 98 4 v l.length (l.flatMap fdC)

/-- append where there is room: the same block. -/
theorem wp_append_room {P : Program} {w : World} {o : Oper} {a : Act} {K : Act → World → Prop} {Q : Exit → Act → World → Prop} (s x : Operand) (t e : TypeId) (z : Value) (size bytes : Nat)
    (ho : o.op = .call { callee := .builtin .append, args := #[s, x], argTypes := #[t, t] }) (ht : P.underlying t = some (.slice e)) (hinfo : (P.info? e).map (fun i => (i.zero, i.size, i.bytes)) = some (some z, size, bytes))
    (g n cap : Nat) (cur : Array Value) (hs : a.eval s = .slice (some ⟨g, 0, none⟩) n cap) (hg : w.heap[g]? = some (.cells cur e (0, 0)))
    (ad : Addr) (m c : Nat) (news : List Value) (hx : a.eval x = .slice (some ad) m c) (hnews : ∀ j u, news[j]? = some u → w.cell? (ad.add j) = some u) (hl : news.length = m * size) (h1 : ∀ u, u ∈ news → u.oneCell' = true)
    (hroom : n + m ≤ cap) (hfit : n * size + news.length ≤ cur.size)
    (h : ∀ ds : Array Value, ds.size = cur.size → ds.toList.take ((n + m) * size) = cur.toList.take (n * size) ++ news → K (a.put o.dst (.slice (some ⟨g, 0, none⟩) (n + m) cap)) (w.setRow g ds)) : o.wp P a w K Q := by
  obtain ⟨i, hi, _, hz1, _⟩ := info_parts hinfo
  subst hz1
  have hr := run_append_room (P := P) w t o.type e i ht hi g n cap cur hg ad m c news hl hnews h1 hroom hfit
  unfold Oper.wp execOp
  simp only [ho, resolve, invoke, builtin, Sem.run_bind, Sem.run_pure, Result.andThen_ok, List.map_toArray, List.map_cons, List.map_nil, hs, hx, hr]
  have hln : (cur.toList.take (n * i.size) ++ news).length = (n + m) * i.size := by
    rw [List.length_append, List.length_take, hl, Nat.add_mul, Array.length_toList]; omega
  refine h _ ?_ ?_
  · simp only [List.size_toArray, List.length_append, List.length_take, List.length_drop, Array.length_toList]; omega
  · rw [← hln]
    exact List.take_left

theorem eqNil_fd (w : World) : (binOp .eql 96 (.slice none 0 0) (.slice none 0 0)).run Tryz.prog w = .ok (.bool true) w := by kernel_rfl
theorem eqSome_fd (w : World) (a : Addr) (n c : Nat) : (binOp .eql 96 (.slice (some a) n c) (.slice none 0 0)).run Tryz.prog w = .ok (.bool false) w := by kernel_rfl

set_option maxRecDepth 100000 in
set_option maxHeartbeats 1000000 in
theorem clone_c (v : Value) (l : List Fd) (w : World) (h : FdRow w v l) (hl : l.length ≤ 1000) : Calls Tryz.prog 142 #[v] w fun e w' => ∃ v', e = .returned v' ∧ FdRow w' v' l ∧ Fr [] w w' ∧ ∀ g, v'.ownBlock = some g → w.heap.size ≤ g := by
  rcases h.2 with ⟨rfl, hz⟩ | ⟨gb, cap, cur, rfl, hbase, hgb, r1, r2, r3, r4⟩
  · have hss : l = [] := List.eq_nil_of_length_eq_zero hz
    subst hss
    have hq := eqNil_fd
    go_enter Tryz.func142, Tryz.ntmps142
    go_wp2_with fail
    go_ret
    exact ⟨_, rfl, h, Fr.refl _ _, fun g hg => by cases hg⟩
  · have HS := Lib.hid (srcAt_of_row (ownsRow_keep (w' := w.alloc (.cells #[] 98)) h fun g hg => Below.heap_alloc _ _ _ (ownsRow_lt h hg)))
    have HL := Lib.hid (fdC_len l)
    have H1 := Lib.hid (fdC_one l)
    clear h hgb r3 r4
    have hq := eqSome_fd
    go_enter Tryz.func142, Tryz.ntmps142
    go_wp2_with (first | ((with_reducible refine wpList_of_wp (o := ⟨some 7, _, _, _, _, _⟩) rfl (fun K hK => ?_)); refine wp_append_src (.tmp 5) (.tmp 6) 96 98 (.agg #[.int .i64 0, .bool false, .int .i64 0, .int .i64 0]) 4 32 rfl Tryz.underlying96 infoFd rfl (by decide) (.slice (some ⟨w.heap.size, 0, none⟩) 0 0) 0 [] rfl (World.ownsRow_lit w #[] 0 (Nat.zero_le _) (by decide) rfl) _ l.length _ rfl HS.out HL.out H1.out (by omega) (by omega) (fun ga cap2 w9 x1 x2 x3 => hK _ _ ?_); have X1 := Lib.hid x1; have X2 := Lib.hid x2; have X3 := Lib.hid x3; clear x1 x2 x3 hK K))
    go_ret
    have x3 := X3.out
    simp only [Nat.zero_add] at x3
    refine ⟨.slice ga l.length cap2, rfl, by simpa using X1.out, (Fr.alloc _ _ _).step X2.out (fun i hi => by simp [Value.ownBlock] at hi; exact .inr (by omega)), fun g hg => ?_⟩
    rcases x3 with h | h
    · rw [h] at hg; simp [Value.ownBlock] at hg; omega
    · rw [h] at hg; simp at hg; omega

theorem addr_add (b off j : Nat) : (⟨b, off, none⟩ : Addr).add j = ⟨b, off + j, none⟩ := by
  unfold Addr.add
  split
  · rename_i h; subst h; rfl
  · rfl
theorem flat_drop : ∀ (l : List Fd) (k : Nat), (l.drop k).flatMap fdC = (l.flatMap fdC).drop (k * 4)
  | [], k => by simp
  | x :: l, 0 => by simp
  | x :: l, k + 1 => by
    rw [List.drop_succ_cons, flat_drop l k, List.flatMap_cons, show (k + 1) * 4 = (fdC x).length + k * 4 by simp [fdC]; omega, List.drop_append]
    simp
theorem flat_take : ∀ (l : List Fd) (k : Nat), (l.take k).flatMap fdC = (l.flatMap fdC).take (k * 4)
  | [], k => by simp
  | x :: l, 0 => by simp
  | x :: l, k + 1 => by
    rw [List.take_succ_cons, List.flatMap_cons, flat_take l k, List.flatMap_cons, show (k + 1) * 4 = (fdC x).length + k * 4 by simp [fdC]; omega, List.take_append]
    simp [List.take_of_length_le]
theorem erase_flat (l : List Fd) (k : Nat) (_h : k < l.length) : (l.eraseIdx k).flatMap fdC = (l.take k).flatMap fdC ++ (l.drop (k + 1)).flatMap fdC := by
  rw [List.eraseIdx_eq_take_drop_succ, List.flatMap_append]

set_option maxRecDepth 100000 in
set_option maxHeartbeats 4000000 in
theorem delete_c (g cap : Nat) (l : List Fd) (k : Nat) (w : World) (h : FdRow w (.slice (some ⟨g, 0, none⟩) l.length cap) l) (hk : k < l.length) (hl : l.length ≤ 1000) :
    Calls Tryz.prog 141 #[.slice (some ⟨g, 0, none⟩) l.length cap, .int .i64 k, .int .i64 (k + 1 : Nat)] w fun e w' => e = .returned (.slice (some ⟨g, 0, none⟩) (l.length - 1) cap) ∧ FdRow w' (.slice (some ⟨g, 0, none⟩) (l.length - 1) cap) (l.eraseIdx k) ∧ Fr [g] w w' := by
  rcases h.2 with ⟨h0, _⟩ | ⟨g', cap', cur, hv, _, hg, r1, r2, r3, r4⟩
  · cases h0
  · cases hv
    have hln := fdC_len l
    have hcur : ∀ j u, (l.flatMap fdC)[j]? = some u → cur[j]? = some u := fun j u hu => by
      have hj : j < (l.flatMap fdC).length := (List.getElem?_eq_some_iff.1 hu).1
      rw [← r4, List.getElem?_take_of_lt (by omega), Array.getElem?_toList] at hu
      exact hu
    have hkl : k + (l.length - (k + 1)) = l.length - 1 := by omega
    have hnl : ((l.drop (k + 1)).flatMap fdC).length = (l.length - (k + 1)) * 4 := by rw [fdC_len]; simp
    have hnw : ∀ j u, ((l.drop (k + 1)).flatMap fdC)[j]? = some u → cur[(k + 1) * 4 + j]? = some u := fun j u hu => hcur _ u (by rw [flat_drop, List.getElem?_drop] at hu; exact hu)
    have HG : Hid (w.drew.heap[g]? = some (.cells cur 98 (0, 0))) := Lib.hid hg
    have HNL := Lib.hid hnl; have HNW := Lib.hid hnw; have HO := Lib.hid (fdC_one (l.drop (k + 1)))
    have HT : Hid (cur.toList.take (k * 4) = (l.take k).flatMap fdC) := Lib.hid (by
      rw [flat_take, ← r4, List.take_take, Nat.min_eq_left (by omega)])
    have HE := Lib.hid (erase_flat l k hk)
    have hlt : (l.take k).length = k := by simp; omega
    have HTL : Hid (((l.take k).flatMap fdC).length = k * 4) := Lib.hid (by rw [fdC_len, hlt])
    clear hnl hnw hcur hln h r4 hlt
    have hr3 : k * 4 + (l.length - (k + 1)) * 4 ≤ cur.size := by omega
    have hkc : k ≤ cap := by omega
    have hk1 : k + 1 ≤ l.length := hk
    have hki : (0 : Int) ≤ (k : Int) + 1 := by omega
    have hki2 : (k : Int) + 1 ≤ (l.length : Int) := by omega
    by_cases hc : k + 1 = cap
    · subst hc
      have hle : l.length = k + 1 := by omega
      have hel : (l.eraseIdx k).length = k := by rw [List.length_eraseIdx, if_pos hk]; omega
      have hdr : l.drop (k + 1) = [] := List.drop_of_length_le (by omega)
      have HEE : Hid ((l.eraseIdx k).flatMap fdC = (l.take k).flatMap fdC) := Lib.hid (by rw [HE.out, hdr]; simp)
      simp only [FdRow, hel, hle, Nat.add_sub_cancel]
      have HEL := Lib.hid hel
      have hk4 : k * 4 ≤ cur.size := by omega
      have hkk : (k : Int) ≤ (k : Int) + 1 := by omega
      have hkn : k ≤ k + 1 := by omega
      have hkd : k + 1 - k = 1 := by omega
      have hkz : ¬ (k + 1 = k) := by omega
      clear hel hle hdr hki2 hk1 hkl HNL HNW HO HE hr3 hl hk r1
      go_enter Tryz.func141, Tryz.ntmps141
      go_wp2_with fail
      go_region_law (refine step_of_wp rfl (wp_append_room (.tmp 22) (.tmp 25) 96 98 (.agg #[.int .i64 0, .bool false, .int .i64 0, .int .i64 0]) 4 32 rfl Tryz.underlying96 infoFd g k (k + 1) cur rfl HG.out ⟨g, 0, none⟩ 0 0 [] rfl (by simp) rfl (by simp) (by omega) (by simpa using hk4) ?_); intro ds hds htk; rw [Nat.add_zero, List.append_nil] at htk; rw [Nat.add_zero])
      all_goals
        have KD := Lib.hid (setRow_heap w.drew g cur ds 98 (0, 0) HG.out)
        have FD := Lib.hid (Fr.setRow (fp := [g]) w.drew ds (by simp : g ∈ [g]))
        have HTK := Lib.hid htk
        clear htk
        generalize w.drew.setRow g ds = W1 at *
        go_wp2_with (first | ((with_reducible refine wpList_of_wp (o := ⟨none, _, _, _, _, _⟩) rfl (fun K hK => ?_)); refine wp_clear_off (.tmp 31) 96 98 (.agg #[.int .i64 0, .bool false, .int .i64 0, .int .i64 0]) rfl Tryz.underlying96 zeroFd (by simp [Value.cells, Value.oneCell']) g (k * 4) 1 1 ds 98 (by first | rfl | simp) KD.out (by show k * 4 + 1 * 4 ≤ ds.size; omega) (by decide) (fun cs hcs hpre => hK _ _ ?_); have KC := Lib.hid (setRow_heap W1 g ds cs 98 (0, 0) KD.out); have FC := Lib.hid (Fr.setRow (fp := [g]) W1 cs (by simp : g ∈ [g])); clear hK K))
        go_ret
        refine ⟨rfl, ?_, ((Fr.drew _ _).trans FD.out).trans FC.out⟩
        refine ⟨by rw [fdC_len, HEL.out], .inr ⟨g, k + 1, cs, rfl, Nat.zero_le _, KC.out, by omega, r2, by omega, ?_⟩⟩
        rw [HEE.out, ← HT.out, ← HTK.out]
        apply List.ext_getElem?
        intro q
        by_cases hq : q < k * 4
        · rw [List.getElem?_take_of_lt hq, List.getElem?_take_of_lt hq, Array.getElem?_toList, Array.getElem?_toList, hpre q hq]
        · rw [List.getElem?_take_eq_none (by omega), List.getElem?_take_eq_none (by omega)]
    · have hc' : ¬ cap = k + 1 := fun h => hc h.symm
      go_enter Tryz.func141, Tryz.ntmps141
      go_wp2_with fail
      go_region_law (refine step_of_wp rfl (wp_append_room (.tmp 22) (.tmp 25) 96 98 (.agg #[.int .i64 0, .bool false, .int .i64 0, .int .i64 0]) 4 32 rfl Tryz.underlying96 infoFd g k cap cur rfl HG.out ⟨g, (k + 1) * 4, none⟩ (l.length - (k + 1)) (cap - (k + 1)) ((l.drop (k + 1)).flatMap fdC) rfl (fun j u hu => by rw [addr_add, cell_of_blk HG.out]; exact HNW.out j u hu) HNL.out HO.out (by omega) (by rw [HNL.out]; exact hr3) ?_); intro ds hds htk; rw [hkl] at htk; rw [hkl])
      all_goals
        have KD := Lib.hid (setRow_heap w.drew g cur ds 98 (0, 0) HG.out)
        have FD := Lib.hid (Fr.setRow (fp := [g]) w.drew ds (by simp : g ∈ [g]))
        have HTK := Lib.hid htk
        clear htk
        generalize w.drew.setRow g ds = W1 at *
        have hl1 : ((l.length - 1 : Nat) : Int) ≤ (l.length : Int) := by omega
        have hl2 : l.length - 1 ≤ l.length := by omega
        have hl3 : l.length - (l.length - 1) = 1 := by omega
        have hl4 : ¬ cap = l.length - 1 := by omega
        go_wp2_with (first | ((with_reducible refine wpList_of_wp (o := ⟨none, _, _, _, _, _⟩) rfl (fun K hK => ?_)); refine wp_clear_off (.tmp 31) 96 98 (.agg #[.int .i64 0, .bool false, .int .i64 0, .int .i64 0]) rfl Tryz.underlying96 zeroFd (by simp [Value.cells, Value.oneCell']) g ((l.length - 1) * 4) 1 (cap - (l.length - 1)) ds 98 (by first | rfl | simp [hl3]) KD.out (by show (l.length - 1) * 4 + 1 * 4 ≤ ds.size; omega) (by decide) (fun cs hcs hpre => hK _ _ ?_); have KC := Lib.hid (setRow_heap W1 g ds cs 98 (0, 0) KD.out); have FC := Lib.hid (Fr.setRow (fp := [g]) W1 cs (by simp : g ∈ [g])); clear hK K))
        go_ret
        refine ⟨rfl, ?_, ((Fr.drew _ _).trans FD.out).trans FC.out⟩
        have hel : (l.eraseIdx k).length = l.length - 1 := by rw [List.length_eraseIdx, if_pos hk]
        rw [FdRow, hel]
        refine ⟨by rw [fdC_len, hel], .inr ⟨g, cap, cs, rfl, Nat.zero_le _, KC.out, by omega, r2, by omega, ?_⟩⟩
        rw [HE.out, ← HT.out, ← HTK.out]
        apply List.ext_getElem?
        intro q
        by_cases hq : q < (l.length - 1) * 4
        · rw [List.getElem?_take_of_lt hq, List.getElem?_take_of_lt hq, Array.getElem?_toList, Array.getElem?_toList, hpre q hq]
        · rw [List.getElem?_take_eq_none (by omega), List.getElem?_take_eq_none (by omega)]

end Go.Proofs.YtahfpadaoobkfaaGreatDoor

/-
  statute: Decide.
-/
namespace Go.Proofs.YtahfpadaoobkfaaGreatDoor
open Go.RowKit Go.Lib Go.Maps

/-- What Decide returns. -/
def Decided (c : Rb) (q : Qn) (w : World) (e : Ending) (w' : World) : Prop :=
  Fr [] w w' ∧ ((okB c q = false ∧ e = .returned (.tuple #[.bool false, .slice none 0 0, .int .i64 80])) ∨
    (okB c q = true ∧ ∃ v, e = .returned (.tuple #[.bool (decideA c q), v, .int .i64 0]) ∧ FdRow w' v (decideL c q) ∧ ∀ g, v.ownBlock = some g → w.heap.size ≤ g))

theorem fdRow_keep {w w' : World} {v : Value} {l : List Fd} (h : FdRow w v l) (hk : ∀ g, v.ownBlock = some g → w'.heap[g]? = w.heap[g]?) : FdRow w' v l := ownsRow_keep h hk
set_option maxRecDepth 100000 in
set_option maxHeartbeats 8000000 in
theorem decide_c (vc vr vf : Value) (ys : List ClV) (c : Rb) (q : Qn) (w : World) (h : RbAt w vc vr vf ys c) : Calls Tryz.prog 121 #[rbV vc vr vf, qnV q] w (Decided c q w) := by
  obtain ⟨ac, pc, rfl⟩ := h.cls.sl.val
  obtain ⟨ar, pr, rfl⟩ := h.rps.val
  obtain ⟨af, pf, rfl⟩ := h.fas.val
  obtain ⟨th, sa, at_, kn⟩ := q
  have A2 := alloc2' w (.cells #[.slice ac ys.length pc, .slice ar c.rps.length pr, .slice af c.fas.length pf] 36) (.cells #[.int .i64 th, .int .i64 sa, .int .i64 at_, .int .i64 kn] 142)
  have F2 : Fr [] w ((w.alloc (.cells #[.slice ac ys.length pc, .slice ar c.rps.length pr, .slice af c.fas.length pf] 36)).alloc (.cells #[.int .i64 th, .int .i64 sa, .int .i64 at_, .int .i64 kn] 142)) := (Fr.alloc _ _ _).trans (Fr.alloc _ _ _)
  have CO := Lib.hid (open_c _ _ _ ys c ⟨th, sa, at_, kn⟩ _ (h.same F2))
  have HA := Lib.hid A2; have HF := Lib.hid F2; clear A2 F2 h
  unfold rbV qnV at *
  simp only at CO ⊢
  go_enter Tryz.func121, Tryz.ntmps121
  go_wp2_with fail
  refine CO.out.mono ?_
  rintro e w2 ⟨f1, h1⟩
  have HQ := Lib.hid (f1.keep HA.out.2 (by simp))
  have F2 := Lib.hid (HF.out.trans f1)
  have hq1 := blk_lt HQ.out
  clear f1 CO
  rcases h1 with ⟨ho, p, rfl⟩ | ⟨ho, J, D, rfl, hJ, hD, rfl, e2, e3, _, hbm, hbj⟩
  · have Ho := Lib.hid ho; clear ho
    go_wp2_with fail
    go_ret3
    exact ⟨F2.out, .inl ⟨Ho.out, rfl⟩⟩
  · have hsa : 0 ≤ sa ∧ sa ≤ 19 := by
      have := ho
      simp only [okB, asksB, Bool.and_eq_true, isInB_iff] at this
      exact this.2.1.1.2
    obtain ⟨n, hn⟩ := Int.eq_ofNat_of_zero_le hsa.1
    subst hn
    have hn19 : n ≤ 19 := by omega
    have HDA : Hid (decideA J.c ⟨th, n, at_, kn⟩ = soB J.c J.fs J.cs n) := Lib.hid (by unfold decideA; rw [e2, e3])
    have HDL : Hid (decideL J.c ⟨th, n, at_, kn⟩ = prune J.c J.fs J.cs n (soB J.c J.fs J.cs n) n (fdTo J.c J.fs J.cs (n + 1))) := Lib.hid (by unfold decideL; rw [← e2, ← e3]; simp only [Int.toNat_natCast])
    have Ho := Lib.hid ho; have HJ := Lib.hid hJ; have HD := Lib.hid hD
    have hbl : J.bm < w2.heap.size := hD.own.lt
    have hbm2 : w.heap.size + 1 ≠ J.bm := by simp at hbm; omega
    have c1 : w2.cell? ⟨w.heap.size + 1, 1, none⟩ = some (.int .i64 n) := cell_of_blk HQ.out 1
    clear ho hJ hD e2 e3 hsa
    go_wp2_with fail
    clear c1
    go_loopw [9, 26] (fun v i wr => ∃ (k : Nat) (D' : DataW Unit), k ≤ n + 1 ∧ i = .int .i64 k ∧ Hid (Fr [J.bm] w2 wr) ∧ Hid (FoundAt wr J.bm J.fd D') ∧ Hid (FdRow wr v (fdTo J.c J.fs J.cs k)) ∧ Hid (∀ g, v.ownBlock = some g → w2.heap.size ≤ g)) (fun _ i _ => n + 1 - (intOf i).toNat)
    case atStart => exact ⟨0, D, Nat.zero_le _, rfl, Lib.hid (Fr.refl _ _), HD, Lib.hid ⟨rfl, .inl ⟨rfl, rfl⟩⟩, Lib.hid fun g hg => by cases hg⟩
    case round =>
      obtain ⟨k, D', hk, rfl, HFr, HFo, HRo, HNw⟩ := hrel
      by_cases hlt : k < n + 1
      · have hJk := HJ.out.frM HFr.out HD.out.map
        have CS := Lib.hid (so_ok J k (by omega) wr D' hJk HFo.out)
        obtain ⟨va, vp, rfl⟩ := (sl_of_row HRo.out).val
        have HBW : Hid (∀ g, (Value.slice va (fdTo J.c J.fs J.cs k).length vp).ownBlock = some g → g ≠ J.bm) := Lib.hid fun g hg => by have := HNw.out g hg; omega
        have HLn : Hid ((fdTo J.c J.fs J.cs k).length = k) := Lib.hid (fdTo_length k)
        have hkn : (fdTo J.c J.fs J.cs k).length ≤ 20 := by rw [fdTo_length]; omega
        clear hJk
        go_wp2_with fail
        refine CS.out.mono ?_
        rintro e w3 ⟨rfl, D3, j3, has3⟩
        have R3 := Lib.hid (fdRow_keep HRo.out (fun g hg => j3.fr.block g (ownsRow_lt HRo.out hg) (by simpa using HBW.out g hg)))
        have hget := j3.found.get k (by omega) has3
        have q5 : w3.cell? ⟨J.bj, 5, none⟩ = some (.map (some J.bm)) := cell_of_blk j3.js.str 5
        have J3 := Lib.hid j3
        clear j3 has3 CS
        have HX : Hid (J.fd k = fdOf J.c J.fs J.cs k) := Lib.hid rfl
        obtain ⟨y, hy⟩ : ∃ y, J.fd k = y := ⟨_, rfl⟩
        rw [hy] at hget
        rw [hy] at HX
        clear hy
        have HSu : Hid (fdTo J.c J.fs J.cs (k + 1) = fdTo J.c J.fs J.cs k ++ [y]) := Lib.hid (by rw [HX.out, fdTo_map, fdTo_map, List.range_succ]; simp)
        obtain ⟨y0, y1, y2, y3⟩ := y
        simp only [fdV] at hget
        have RA := Lib.hid (fdRow_keep (w' := w3.alloc (.cells #[.int .i64 y0, .bool y1, .int .i64 y2, .int .i64 y3] 98)) R3.out (fun g hg => Below.heap_alloc _ _ _ (ownsRow_lt R3.out hg)))
        have HSr : Hid (SrcAt (w3.alloc (.cells #[.int .i64 y0, .bool y1, .int .i64 y2, .int .i64 y3] 98)) (.slice (some ⟨w3.heap.size, 0, none⟩) 1 1) 1 [.int .i64 y0, .bool y1, .int .i64 y2, .int .i64 y3]) := Lib.hid ⟨.inr ⟨_, _, rfl, World.news_of_block (heap_alloc_new w3 (.cells #[.int .i64 y0, .bool y1, .int .i64 y2, .int .i64 y3] 98))⟩⟩
        go_wp2_with (first | ((with_reducible refine wpList_of_wp (o := ⟨some 40, _, _, _, _, _⟩) rfl (fun K hK => ?_)); refine wp_append_src (.tmp 32) (.tmp 39) 96 98 (.agg #[.int .i64 0, .bool false, .int .i64 0, .int .i64 0]) 4 32 rfl Tryz.underlying96 infoFd rfl (by decide) _ (fdTo J.c J.fs J.cs k).length _ rfl RA.out _ 1 _ rfl HSr.out rfl (by simp [Value.oneCell']) (by omega) (by omega) (fun ga cap2 w9 x1 x2 x3 => hK _ _ ?_); have X1 := Lib.hid x1; have X2 := Lib.hid x2; have X3 := Lib.hid x3; clear x1 x2 x3 hK K))
        go_roundw
        case rel =>
          have hb3 : ∀ g, g ∈ (Value.slice va (fdTo J.c J.fs J.cs k).length vp).ownBlock.toList → w2.heap.size ≤ g := fun g hg => HNw.out g (by simpa using hg)
          have hs3 := (HFr.out.trans J3.out.fr).size
          refine ⟨k + 1, D3, by omega, by go_num, Lib.hid (((HFr.out.trans J3.out.fr).trans (Fr.alloc _ _ _)).step X2.out (fun i hi => .inr (hb3 i hi))), Lib.hid ((J3.out.found.fr (Fr.alloc _ _ _)).fr' X2.out (fun hm => by have := hb3 _ hm; omega)), Lib.hid ?_, Lib.hid fun g hg => ?_⟩
          · rw [HSu.out]
            simpa [FdRow, fdC] using X1.out
          · rcases X3.out with h | h
            · rw [h] at hg; exact HNw.out g hg
            · rw [h] at hg; simp at hg; omega
        case measure => simp [intOf]; omega
      · obtain rfl : k = n + 1 := by omega
        have hJk := HJ.out.frM HFr.out HD.out.map
        have CS := Lib.hid (so_ok J n (by omega) wr D' hJk HFo.out)
        have HQk := Lib.hid (HFr.out.keep HQ.out (by simp only [List.mem_singleton]; exact hbm2))
        have c1 : wr.cell? ⟨w.heap.size + 1, 1, none⟩ = some (.int .i64 n) := cell_of_blk HQk.out 1
        clear hJk
        obtain ⟨va, vp, rfl⟩ := (sl_of_row HRo.out).val
        have HBW : Hid (∀ g, (Value.slice va (fdTo J.c J.fs J.cs (n + 1)).length vp).ownBlock = some g → g ≠ J.bm) := Lib.hid fun g hg => by have := HNw.out g hg; omega
        have HLn : (fdTo J.c J.fs J.cs (n + 1)).length = n + 1 := fdTo_length (n + 1)
        generalize fdTo J.c J.fs J.cs (n + 1) = l0 at *
        go_wp2_with fail
        refine CS.out.mono ?_
        rintro e w4 ⟨rfl, D4, j4, _⟩
        have R4 := Lib.hid (fdRow_keep HRo.out (fun g hg => j4.fr.block g (ownsRow_lt HRo.out hg) (by simpa using HBW.out g hg)))
        have F4 := Lib.hid (HFr.out.trans j4.fr)
        clear j4 CS c1
        have hso : J.so n = soB J.c J.fs J.cs n := rfl
        rw [hso]
        clear hso
        generalize soB J.c J.fs J.cs n = so at *
        go_wp2_with fail
        go_loopw [9, 12] (fun v i wr => ∃ (k : Nat) (j : Int) (l : List Fd), i = .int .i64 j ∧ (k : Int) = j + 1 ∧ k + 1 ≤ l.length ∧ l.length ≤ 20 ∧ Hid (Fr [J.bm] w2 wr) ∧ Hid (FdRow wr v l) ∧ Hid (∀ g, v.ownBlock = some g → w2.heap.size ≤ g) ∧ Hid (decideL J.c ⟨th, n, at_, kn⟩ = prune J.c J.fs J.cs n so k l)) (fun _ i _ => (intOf i + 1).toNat)
        case atStart => exact ⟨n, _, l0, rfl, by omega, by omega, by omega, F4, Lib.hid (by have := R4.out; rwa [HLn] at this), Lib.hid (by have := HNw.out; rwa [HLn] at this), HDL⟩
        case round =>
          obtain ⟨k, jj, l, rfl, hjk, hkl, hl20, HFr, HRo, HNw, HDL⟩ := hrel
          obtain ⟨va, vp, rfl⟩ := (sl_of_row HRo.out).val
          by_cases h0 : 0 < k
          · obtain ⟨k', rfl⟩ : ∃ k' : Nat, jj = k' := ⟨jj.toNat, by omega⟩
            obtain rfl : k = k' + 1 := by omega
            have CC := Lib.hid (clone_c _ l wr HRo.out (by omega))
            have HQk := Lib.hid (HFr.out.keep HQ.out (by simp only [List.mem_singleton]; exact hbm2))
            go_wp2_with fail
            refine CC.out.mono ?_
            rintro e w5 ⟨v5, rfl, r5, f5, n5⟩
            obtain ⟨g5, cap5, hv5, _, hlt5⟩ := r5.form (by omega)
            subst hv5
            have hg5 := n5 g5 rfl
            have CD := Lib.hid (delete_c g5 cap5 l k' w5 r5 (by omega) (by omega))
            have R5 := Lib.hid (fdRow_keep (w' := w5) HRo.out (fun g hg => f5.block g (ownsRow_lt HRo.out hg) (by simp)))
            have F5 := Lib.hid (HFr.out.trans (f5.mono (by simp)))
            have HQ5 := Lib.hid (f5.keep HQk.out (by simp))
            have hws := HFr.out.size
            have hnat : ((k' + 1 : Nat) : Int) = (k' : Int) + 1 := by omega
            rw [hnat] at CD
            clear f5 n5 r5 CC hnat
            go_wp2_with fail
            refine CD.out.mono ?_
            rintro e w6 ⟨rfl, r6, f6⟩
            have F6 := Lib.hid (F5.out.step f6 (fun i hi => by simp at hi; exact .inr (by omega)))
            have hne5 : ∀ g, (Value.slice va l.length vp).ownBlock = some g → g ≠ g5 := fun g hg => by have := ownsRow_lt HRo.out hg; omega
            have R6 := Lib.hid (fdRow_keep (w' := w6) R5.out (fun g hg => f6.block g (ownsRow_lt R5.out hg) (by simpa using hne5 g hg)))
            have RD := Lib.hid r6
            have hq6 := blk_lt HQk.out
            have HQ6 := Lib.hid (f6.keep HQ5.out (by simp only [List.mem_singleton]; omega))
            have c6 : w6.cell? ⟨w.heap.size + 1, 1, none⟩ = some (.int .i64 n) := cell_of_blk HQ6.out 1
            have hel : (l.eraseIdx k').length = l.length - 1 := by rw [List.length_eraseIdx, if_pos (by omega)]
            have hsl6 := sl_of_row r6
            rw [hel] at hsl6
            have CP := proves_c J n so (.slice (some ⟨g5, 0, none⟩) (l.length - 1) cap5) (l.eraseIdx k') w6 (HJ.out.frM F6.out HD.out.map) (by rw [hel]; exact hsl6)
            have HPs : Hid (prune J.c J.fs J.cs n so (k' + 1) l = prune J.c J.fs J.cs n so k' (if provesB J.c J.fs J.cs n so (l.eraseIdx k') then l.eraseIdx k' else l)) := Lib.hid rfl
            generalize hpb : provesB J.c J.fs J.cs n so (l.eraseIdx k') = pb at *
            have CPP := Lib.hid CP
            have HPB := Lib.hid hpb
            clear CP r6 f6 CD hsl6 hne5 hpb
            go_wp2_with fail
            refine CPP.out.mono ?_
            rintro e w7 ⟨rfl, f7⟩
            have F7 := Lib.hid (F6.out.trans (f7.mono (by simp)))
            have R7 := Lib.hid (fdRow_keep (w' := w7) R6.out (fun g hg => f7.block g (ownsRow_lt R6.out hg) (by simp)))
            have RD7 := Lib.hid (fdRow_keep (w' := w7) RD.out (fun g hg => f7.block g (ownsRow_lt RD.out hg) (by simp)))
            clear f7 CPP c6
            cases pb with
            | true =>
              go_wp2_with fail
              go_roundw
              case rel => exact ⟨k', _, l.eraseIdx k', rfl, by omega, by omega, by omega, F7, RD7, Lib.hid fun g hg => by simp [Value.ownBlock] at hg; omega, Lib.hid (by rw [HDL.out, HPs.out]; rfl)⟩
              case measure => simp [intOf]
            | false =>
              go_wp2_with fail
              go_roundw
              case rel => exact ⟨k', _, l, rfl, by omega, by omega, by omega, F7, R7, HNw, Lib.hid (by rw [HDL.out, HPs.out]; rfl)⟩
              case measure => simp [intOf]
          · have hk0 : k = 0 := by omega
            subst hk0
            have hjm : jj = -1 := by omega
            subst hjm
            go_wp2_with fail
            go_ret3
            have hfw : Fr [] w wr := F2.out.step HFr.out (fun i hi => by simp at hi; exact .inr (by simp at hbm; omega))
            refine ⟨hfw, .inr ⟨Ho.out, _, ?_, ?_, fun g hg => Nat.le_trans F2.out.size (HNw.out g hg)⟩⟩
            · rw [HDA.out]; rfl
            · rw [HDL.out]
              exact HRo.out

end Go.Proofs.YtahfpadaoobkfaaGreatDoor
