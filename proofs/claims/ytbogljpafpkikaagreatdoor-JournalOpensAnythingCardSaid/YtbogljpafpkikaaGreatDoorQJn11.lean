/-
  journal: Open.
-/
import Derived.Test.YtbogljpafpkikaaGreatDoorQJD
namespace Go.Proofs.YtbogljpafpkikaaGreatDoor
open Go.RowKit Go.Lib

def zeros (n : Nat) : ByteArray := str (List.replicate n 0)
/-- What Open returns: the error, the records, the disk behind it. -/
def Dk.opens (D : Dk) : Int × Option Tp × Dk :=
  if D.off then (91, none, D) else match openM D.vis with
  | none => (102, none, D)
  | some t => if (D.vis.drop t.size).all (· == 0) then (0, some t, D) else
    ((D.runs [.write t.size (zeros (D.vis.length - t.size)), .sync]).1, (if (D.runs [.write t.size (zeros (D.vis.length - t.size)), .sync]).1 = 0 then some t else none), (D.runs [.write t.size (zeros (D.vis.length - t.size)), .sync]).2)
def OpenJ (db : Nat) (fp : List Nat) (w : World) (o : Int × Option Tp × Dk) (e : Ending) (w' : World) : Prop := ∃ fp', DkA w' db fp' o.2.2 ∧ Upd fp fp' w w' ∧ match o.2.1 with
  | none => e = .returned (.tuple #[.pointer none, .int .i64 o.1])
  | some t => ∃ jb vr, e = .returned (.tuple #[.pointer (some ⟨jb, 0, none⟩), .int .i64 o.1]) ∧ TapeAt w' jb [.pointer (some ⟨db, 0, none⟩), .bool false] 71 vr t ∧ ∀ k, k ∈ tpB jb vr → w.heap.size ≤ k ∧ k ∉ fp'

theorem tape_lt {w : World} {b : Nat} {X : List Value} {ty : TypeId} {vr : Value} {t : Tp} (h : TapeAt w b X ty vr t) : ∀ k, k ∈ tpB b vr → k < w.heap.size := fun k hk => by
  simp only [tpB, List.mem_cons, Option.mem_toList] at hk
  rcases hk with rfl | hk
  · exact blk_lt h.blk
  · exact ownsRow_lt h.row hk

theorem open_nil (w : World) : Calls Tryz.prog 23 #[.pointer none] w fun e w' => e = .returned (.tuple #[.pointer none, .int .i64 1]) ∧ w = w' := by
  go_enter Tryz.func23, Tryz.ntmps23
  go_wp2
  go_ret2
  exact ⟨rfl, rfl⟩

set_option maxRecDepth 100000 in
set_option maxHeartbeats 1000000 in
theorem openJ_c (a : Addr) (db : Nat) (fp : List Nat) (D : Dk) (w : World) (h : DkA w db fp D) (hR : RndAt w) (hA : DmgAt w a) (hp : D.pend.length ≤ 4000000000) : Calls Tryz.prog 23 #[.pointer (some ⟨db, 0, none⟩)] w (OpenJ db fp w D.opens) := by
  have hok : D.Ok := by obtain ⟨_, _, _, hd, _⟩ := h; exact hd.ok
  have hm := hok.max
  have CS := Lib.hid (size_dk db fp D w h)
  have CR := read_dk db fp D 0 D.dur.length w h (by omega) (by omega) (by omega) (by omega)
  have hlt := DkAt.lt h
  have HD := Lib.hid h
  clear h
  cases hoff : D.off with
  | true =>
    rw [show D.readE 0 D.dur.length = 91 by simp [Dk.readE, hoff], show D.readS 0 D.dur.length = [] by simp [Dk.readS, hoff]] at CR
    have HO : Shut (D.opens = (91, none, D)) := ⟨by simp [Dk.opens, hoff]⟩
    have HR := Lib.hid CR
    clear CR hoff hok
    go_enter Tryz.func23, Tryz.ntmps23
    go_wp2_with fail
    refine CS.out.mono ?_
    rintro e w1 ⟨rfl, rfl⟩
    go_wp2_with fail
    refine HR.out.mono ?_
    rintro e w1 ⟨rfl, rfl⟩
    go_wp2_with fail
    go_ret2
    rw [HO.out]
    exact ⟨fp, HD.out, Upd.refl _ _, rfl⟩
  | false =>
    have hin : insB D.dur.length 0 D.dur.length = true := by simp [insB]
    rw [show D.readE 0 D.dur.length = 0 by simp [Dk.readE, hoff, hin], show D.readS 0 D.dur.length = D.vis by simp only [Dk.readS, hoff, hin, if_true, Bool.false_eq_true, if_false]; simp [← hok.len]] at CR
    have hvl := hok.len
    have HR := Lib.hid CR
    have CO := Lib.hid (open_c a (some ⟨db, 0, none⟩) (str D.vis) w (by rw [str_size]; omega) hR hA)
    rw [bts_str] at CO
    have HO : Shut (D.opens = match openM D.vis with
      | none => (102, none, D)
      | some t => if (D.vis.drop t.size).all (· == 0) then (0, some t, D) else
        ((D.runs [.write t.size (zeros (D.vis.length - t.size)), .sync]).1, (if (D.runs [.write t.size (zeros (D.vis.length - t.size)), .sync]).1 = 0 then some t else none), (D.runs [.write t.size (zeros (D.vis.length - t.size)), .sync]).2)) := ⟨by simp [Dk.opens, hoff]⟩
    clear CR hoff hin hok
    have hoz : ∀ t, openM D.vis = some t → t.size ≤ D.vis.length := fun t ht => openM_size ht
    generalize openM D.vis = O at *
    cases O with
    | none =>
      clear hoz
      go_enter Tryz.func23, Tryz.ntmps23
      go_wp2_with fail
      refine CS.out.mono ?_
      rintro e w1 ⟨rfl, rfl⟩
      go_wp2_with fail
      refine HR.out.mono ?_
      rintro e w1 ⟨rfl, rfl⟩
      go_wp2_with fail
      refine CO.out.mono ?_
      rintro e w1 ⟨f1, rfl⟩
      have HF := Lib.hid f1
      clear f1 CO HR CS
      go_wp2_with fail
      go_ret2
      rw [HO.out]
      exact ⟨fp, HD.out.keep HF.out (by simp), ⟨HF.out.mono (by simp), fun _ h => .inl h⟩, rfl⟩
    | some t =>
      have hts := hoz t rfl
      clear hoz
      simp only at HO
      obtain ⟨rs, hd, sz⟩ := t
      simp only at HO hts
      go_enter Tryz.func23, Tryz.ntmps23
      go_wp2_with fail
      refine CS.out.mono ?_
      rintro e w1 ⟨rfl, rfl⟩
      go_wp2_with fail
      refine HR.out.mono ?_
      rintro e w1 ⟨rfl, rfl⟩
      go_wp2_with fail
      refine CO.out.mono ?_
      rintro e w1 ⟨f1, jb, vr, rfl, h1, h2⟩
      have HF := Lib.hid f1; have HT := Lib.hid h1; have HN := Lib.hid h2
      have c2 : w1.cell? ⟨jb, 2, none⟩ = some (.int .i64 sz) := cell_of_blk h1.blk 2
      clear f1 h1 h2 CO HR CS
      go_wp2_with fail
      have hex : (ByteArray.extract ⟨D.vis.toArray⟩ sz D.dur.length) = str (D.vis.drop sz) := by
        have := extract_str (str D.vis) sz D.dur.length
        rw [bts_str, List.take_of_length_le (by simp; omega)] at this
        exact this
      refine (Tryz.strings_Trim_one _ 0 (by decide) _ (by rw [hex, str_size]; simp; omega)).mono ?_
      rw [hex]
      rintro e w2 ⟨rfl, hw2⟩
      have F2 : Fr [] w1 w2 := by
        rcases hw2 with rfl | rfl
        · exact Fr.refl _ _
        · exact Fr.drew _ _
      have hti := trim_iff (D.vis.drop sz)
      rw [show (str (D.vis.drop sz)).data.toList = D.vis.drop sz from rfl]
      clear hw2 hex c2
      have HF2 := Lib.hid F2
      clear F2
      generalize trimB (D.vis.drop sz) 0 = T at *
      cases T with
      | nil =>
        have HO2 : Shut (D.opens = (0, some ⟨rs, hd, sz⟩, D)) := ⟨by rw [HO.out, if_pos (hti.1 rfl)]⟩
        clear hti
        go_wp2_with fail
        go_ret2
        rw [HO2.out]
        have hT2 := HT.out.same HF2.out
        have F := HF.out.trans HF2.out
        exact ⟨fp, HD.out.keep F (by simp), ⟨F.mono (by simp), fun _ h => .inl h⟩, jb, vr, rfl, hT2, fun k hk => ⟨HN.out k hk, fun hm => by have := hlt k hm; have := HN.out k hk; omega⟩⟩
      | cons y T =>
        have hpos : sz < D.dur.length := by
          rcases Nat.lt_or_ge sz D.dur.length with h | h
          · exact h
          · have := hti.2 (by rw [List.drop_eq_nil_of_le (by omega)]; rfl)
            cases this
        have HO2 : Shut (D.opens = ((D.runs [.write sz (zeros (D.vis.length - sz)), .sync]).1, (if (D.runs [.write sz (zeros (D.vis.length - sz)), .sync]).1 = 0 then some ⟨rs, hd, sz⟩ else none), (D.runs [.write sz (zeros (D.vis.length - sz)), .sync]).2)) := ⟨by rw [HO.out, if_neg (fun h => by have := hti.2 h; cases this)]⟩
        clear hti
        obtain ⟨m, hmm⟩ : ∃ m, m = D.dur.length - sz := ⟨_, rfl⟩
        rw [hvl, ← hmm] at HO2
        have hmk : ∀ W : World, (Instr.makeSlice 39 (.int .i64 (m : Int)) (.int .i64 (m : Int))).run Tryz.prog W = .ok (.slice (some ⟨W.heap.size, 0, none⟩) m m) (W.alloc (.cells (madeCells #[Value.int .u8 0] m) 5)) := fun W => run_make_row' (P := Tryz.prog) 39 5 (.int .u8 0) 1 Tryz.underlying39 infoBy rfl .i64 .i64 m (by omega) (by omega) W
        have hzl : (List.replicate m (0 : UInt8)).length = m := List.length_replicate
        have hzz : Shut (zeros m = ⟨(List.replicate m (0 : UInt8)).toArray⟩) := ⟨rfl⟩
        rw [made_bytes] at hmk
        generalize List.replicate m (0 : UInt8) = zs at *
        have HTL := tape_lt HT.out
        have hmf : ∀ (fn : Fn) (first cap : Array Value) (w : World), (Instr.makeFunc fn first cap).run Tryz.prog w = .ok (.func fn first cap) w := fun _ _ _ _ => rfl
        have HZL := Lib.hid hzl
        have HMM : Shut (m = D.dur.length - sz) := ⟨hmm⟩
        have hmp : 0 < m := by omega
        have hm2 : m ≤ 4194304 := by omega
        clear hzl hmm
        go_wp2_with fail
        have F0 : Fr [] w1 w2.drew := HF2.out.trans (Fr.drew _ _)
        refine reg_tree (Fr fp w1) 21 (.take 0 (.take 1 (.take 2 (.take 3 (.take 4 (.take 5 (.take 6 (.take 7 (.take 8 (.take 9 (.take 10 (.take 11 (.take 12 (.take 13 (.take 17 (.take 18 (.one 14 (.one 15 (.one 16 (.one 19 (.one 20 (.one 21 .nil)))))))))))))))))))))) (by kernel_rfl) (by kernel_rfl) (by kernel_rfl) rfl ?_
        generalize w2.drew = WC at F0 ⊢
        have S0 : Fr fp w1 WC := F0.mono (by simp)
        have hjb : jb ∉ fp := fun hm => by have := hlt _ hm; have := HN.out jb (by simp [tpB]); omega
        iterate 13 (refine tree_take (v := ?_) rfl rfl rfl S0 (fun w hS => ?_) ?_; rotate_left; (focus (have X := hS.keep HT.out.blk hjb; have c2 : World.cell? _ ⟨jb, 2, none⟩ = some (.int .i64 sz) := cell_of_blk X 2; clear hS X; go_simp; rfl)); simp only [List.setIfInBounds_toArray, List.set_cons_succ, List.set_cons_zero])
        (refine tree_take (v := ?_) rfl rfl rfl S0 (fun w hS => ?_) ?_; rotate_left; (focus (clear hS; go_simp; rw [IntWalk.i64_in ((D.dur.length : Int) - (sz : Int)) (by omega), show (D.dur.length : Int) - (sz : Int) = (m : Int) by have := HMM.out; omega])); simp only [List.setIfInBounds_toArray, List.set_cons_succ, List.set_cons_zero])
        iterate 2 (refine tree_take (v := ?_) rfl rfl rfl S0 (fun w hS => ?_) ?_; rotate_left; (focus (clear hS; go_simp; rfl)); simp only [List.setIfInBounds_toArray, List.set_cons_succ, List.set_cons_zero])
        refine tree_one rfl rfl (fun K hK => ?_)
        go_simp
        try go_upon
        try go_simp
        have s3 : Fr fp w1 (WC.alloc (.cells (byteCells zs).toArray 5)) := S0.trans (Fr.alloc _ _ _)
        have f3 : Fr [] w1 (WC.alloc (.cells (byteCells zs).toArray 5)) := F0.trans (Fr.alloc _ _ _)
        refine hK _ _ s3 ?_
        have sl := sl_bytes (heap_alloc_new WC (.cells (byteCells zs).toArray 5)) HZL.out (by omega)
        clear hK K
        try simp only [Act.put, List.setIfInBounds_toArray, List.set_cons_succ, List.set_cons_zero]
        refine tree_one rfl rfl (fun K hK => ?_)
        refine wp_sl_str (.tmp 51) rfl _ m m zs rfl sl hmp HZL.out ?_
        refine hK _ _ s3 ?_
        clear hK K sl S0 F0
        try simp only [Act.put, List.setIfInBounds_toArray]
        rw [← hzz.out]
        generalize WC.alloc (.cells (byteCells zs).toArray 5) = W3 at *
        refine tree_one rfl rfl (fun K hK => ?_)
        go_simp
        refine (writing_c jb sz (zeros m) W3).mono ?_
        rintro e W4 ⟨rfl, hwr, hf4, hz4⟩
        have s4 := s3.trans (hf4.mono (by simp))
        have f4 := f3.trans hf4
        simp only [wrV, Fv.val]
        refine hK _ _ s4 ?_
        clear hK K s3
        try simp only [Act.put, List.setIfInBounds_toArray, List.set_cons_succ, List.set_cons_zero]
        refine tree_one rfl rfl (fun K hK => ?_)
        go_simp
        have hf5 : Fr [] W4 (W4.alloc (.cells #[(wrV W3.heap.size).val, (syncV db).val] 82)) := Fr.alloc _ _ _
        have sl5 := sl_vals (heap_alloc_new W4 (.cells #[(wrV W3.heap.size).val, (syncV db).val] 82)) (n := 2) rfl (by decide)
        have s5 := s4.trans (hf5.mono (fp2 := fp) (by simp))
        have f5 := f4.trans hf5
        have wr5 := hwr.fr hf5 (by simp)
        have z5 : (W4.alloc (.cells #[(wrV W3.heap.size).val, (syncV db).val] 82)).heap.size = W3.heap.size + 4 := by simp [hz4]
        have hob : W4.heap.size ∉ fp := fun hm => by have := hlt _ hm; have := HF.out.size; have := f4.size; omega
        simp only [wrV, syncV, Fv.val] at s5 f5 wr5 sl5 z5
        refine hK _ _ s5 ?_
        clear hK K s4 f4 hwr hf4 hf5
        try simp only [Act.put, List.setIfInBounds_toArray, List.set_cons_succ, List.set_cons_zero]
        generalize World.alloc W4 _ = W5 at *
        have h3 : w.heap.size ≤ W3.heap.size := by have := HF.out.size; have := f3.size; omega
        have hw3 : w1.heap.size ≤ W3.heap.size := f3.size
        have hnf : ∀ j, W3.heap.size ≤ j → j ∉ fp := fun j hj hm => by have := hlt _ hm; omega
        have RF := runF_ops (w := W5) (f5.keep HT.out.blk (by simp)) hjb [(.write sz (zeros m), wrV W3.heap.size), (.sync, syncV db)] D fp W5 (by
          intro x hx
          simp only [List.mem_cons, List.not_mem_nil, or_false] at hx
          rcases hx with rfl | rfl
          · refine ⟨_, rfl, wr5, ⟨hnf _ (by omega), hnf _ (by omega), hnf _ (by omega)⟩, by omega, by omega, ?_⟩
            show (zeros m).size ≤ _
            rw [zeros, str_size, List.length_replicate]; omega
          · rfl) (HD.out.keep (HF.out.trans f5) (by simp)) (Upd.refl _ _) (by simp; omega)
        simp only [List.map_cons, List.map_nil] at RF
        have FC := first_c fp [wrV W3.heap.size, syncV db] (some ⟨W4.heap.size, 0, none⟩) 2 W5 _ sl5 (by rintro g hg; cases hg; exact hob) RF
        rw [show [wrV W3.heap.size, syncV db].length = 2 from rfl, hz4] at FC
        have HFC := Lib.hid FC
        clear FC RF
        refine tree_one rfl rfl (fun K hK => ?_)
        go_simp
        refine HFC.out.mono ?_
        rintro e W6 ⟨n, rfl, hn, fp', h1, h2⟩
        have s6 := s5.trans h2.fr
        refine hK _ _ s6 ?_
        clear hK K HFC s5 sl5 wr5
        try simp only [Act.put, List.setIfInBounds_toArray, List.set_cons_succ, List.set_cons_zero]
        have HT6 := Lib.hid ((HT.out.same f5).fr h2.fr (fun k hk hm => by have := hlt _ hm; have := HN.out k hk; omega))
        have HU6 : Hid (Upd fp fp' w W6) := Lib.hid (Upd.trans ⟨(HF.out.trans f5).mono (by simp), fun _ h => .inl h⟩ h2)
        have HP6 : Hid (∀ k, k ∈ tpB jb vr → w.heap.size ≤ k ∧ k ∉ fp') := Lib.hid fun k hk => ⟨HN.out k hk, fun hm => by
          rcases h2.sub k hm with h | h
          · have := hlt _ h; have := HN.out k hk; omega
          · have := HTL k hk; omega⟩
        have HD6 := Lib.hid h1
        have HN6 : Shut (n = (D.runs [.write sz (zeros m), .sync]).1) := ⟨hn⟩
        clear h1 h2 hn s6 f5
        refine tree_last rfl rfl (fun K hK => ?_)
        go_simp
        try go_upon
        try go_simp
        refine hK _ _ ?_
        clear hK K
        refine noPanicN ?_
        by_cases h0 : n = 0
        · subst h0
          go_wp2_with fail
          go_ret2
          rw [HO2.out, ← HN6.out]
          exact ⟨fp', HD6.out, HU6.out, jb, vr, rfl, HT6.out, HP6.out⟩
        · have hb : (n != 0) = true := by simpa using h0
          have H0 := Lib.hid h0
          clear h0
          go_wp2_with fail
          go_ret2
          rw [HO2.out, ← HN6.out]
          simp only [if_neg H0.out]
          exact ⟨fp', HD6.out, HU6.out, rfl⟩

end Go.Proofs.YtbogljpafpkikaaGreatDoor
