/-
  The journal's laws: JournalOpensAnything, from readable arguments.
-/
import Derived.Test.YtbogljpafpkikaaGreatDoorQRW
import Derived.Test.YtbogljpafpkikaaGreatDoorQLS
namespace Go.Proofs.YtbogljpafpkikaaGreatDoor
open Go.RowKit Go.Lib

theorem syncD_off {D : Dk} (h : D.off = false) : D.syncD.off = false := by
  unfold Dk.syncD
  rw [h]
  exact h
theorem opens_on {D : Dk} {t : Tp} (h : D.opens.2.1 = some t) : D.opens.2.2.off = false := by
  unfold Dk.opens at h ⊢
  split at h
  · cases h
  · rename_i ho
    have ho : D.off = false := by simpa using ho
    rw [ho]
    simp only [Bool.false_eq_true, if_false] at h ⊢
    cases hm : openM D.vis with
    | none => simp [hm] at h
    | some u =>
      simp only [hm] at h ⊢
      split at h
      · rename_i ha; rw [if_pos ha]; exact ho
      · rename_i ha
        rw [if_neg ha]
        simp only at h ⊢
        split at h
        · rename_i h0
          rw [Dk.runs] at h0 ⊢
          split at h0
          · rename_i h1
            rw [if_pos h1]
            rw [Dk.runs] at h0 ⊢
            split at h0
            · rename_i h2
              rw [if_pos h2, Dk.runs]
              refine syncD_off ?_
              have h2 : (D.doD (.write u.size (zeros (D.vis.length - u.size)))).syncE = 0 := h2
              unfold Dk.syncE at h2
              split at h2
              · simp at h2
              · rename_i h3; simpa using h3
            · rename_i h2; exact absurd h0 h2
          · rename_i h1; exact absurd h0 h1
        · cases h
theorem writeD_len {D : Dk} (h : D.Ok) (o : Int) (s : ByteArray) : (D.writeD o s).dur.length = D.dur.length ∧ (D.writeD o s).pend.length ≤ D.pend.length + 1 := by
  have h1 := (ok_doD h (.write o s)).2
  have h2 := doD_pend D (.write o s)
  exact ⟨h1, h2⟩
theorem Wd.pwrite {w0 w : World} {wb db xb : Nat} {c1 c3 : Value} {fp fx : List Nat} {D R : Dk} {p q : Option Jb} (h : Wd w0 w wb db xb c1 c3 fp fx D R p q) (o : Int) (s : ByteArray) (ho : -9223372036854775808 ≤ o) (ho2 : o ≤ 9223372036854775807) (hs : s.size ≤ 9223372036854775807) (hp : D.pend.length ≤ 4294967296) :
    Calls Tryz.prog 11 #[.pointer (some ⟨db, 0, none⟩), .int .i64 o, .string s] w fun e w' => e = .returned (.int .i64 (D.writeE o s)) ∧ ∃ fp', Wd w0 w' wb db xb c1 c3 fp' fx (D.writeD o s) R p q :=
  (write_dk db fp D o s w h.js.disk ho ho2 hs hp).mono fun _ _ k => by
    obtain ⟨h1, fp', h2, _⟩ := h.pdisk k
    exact ⟨h1, fp', h2⟩
theorem Wd.rwrite {w0 w : World} {wb db xb : Nat} {c1 c3 : Value} {fp fx : List Nat} {D R : Dk} {p q : Option Jb} (h : Wd w0 w wb db xb c1 c3 fp fx D R p q) (o : Int) (s : ByteArray) (ho : -9223372036854775808 ≤ o) (ho2 : o ≤ 9223372036854775807) (hs : s.size ≤ 9223372036854775807) (hp : R.pend.length ≤ 4294967296) :
    Calls Tryz.prog 14 #[.pointer (some ⟨xb, 0, none⟩), .int .i64 o, .string s] w fun e w' => e = .returned (.int .i64 (R.writeE o s)) ∧ ∃ fx', Wd w0 w' wb db xb c1 c3 fp fx' D (R.writeD o s) p q :=
  (rWrite_dk xb fx R o s w h.rf ho ho2 hs hp).mono fun _ _ k => by
    obtain ⟨h1, fp', h2, _⟩ := h.rdisk k
    exact ⟨h1, fp', h2⟩
/-- What the floating effects of a write of one byte hold. -/
def ByP (m k : Nat) (c : UInt8) (i : Nat) (v : Value) (w : World) : Prop :=
  if i = 6 then v = .int .i64 m else if i = 7 then v = .int .i64 k else if i = 9 then ∃ b, v = .slice (some ⟨b, 0, none⟩) 1 1 ∧ w.heap[b]? = some (.cells (byteCells [c]).toArray 5 (0, 0)) else v = .string (str [c])
theorem ByP.same {m k : Nat} {c : UInt8} {i : Nat} {v : Value} {w w' : World} (h : ByP m k c i v w) (hf : Fr [] w w') : ByP m k c i v w' := by
  unfold ByP at h ⊢
  split
  · rename_i h6; rw [if_pos h6] at h; exact h
  · rename_i h6; rw [if_neg h6] at h
    split
    · rename_i h7; rw [if_pos h7] at h; exact h
    · rename_i h7; rw [if_neg h7] at h
      split
      · rename_i h9; rw [if_pos h9] at h
        obtain ⟨b, h1, h2⟩ := h
        exact ⟨b, h1, hf.keep h2 (by simp)⟩
      · rename_i h9; rw [if_neg h9] at h; exact h

set_option maxRecDepth 100000 in
set_option maxHeartbeats 8000000 in
theorem anything10_c (n atv : Int) (s : ByteArray) (c : UInt8) (a0 : Addr) (la : Option Addr) (lc : Nat) (l : List ByteArray) (w : World) (hn : -9223372036854775808 ≤ n ∧ n ≤ 9223372036854775807) (ha : -9223372036854775808 ≤ atv ∧ atv ≤ 9223372036854775807) (hss : s.size ≤ 9223372036854775807)
    (hsl : Sl w (.slice la l.length lc) l.length (l.map Value.string)) (hls : ∀ s, s ∈ l → s.size ≤ 9223372036854775807) (hR : RndAt w) (hA : DmgAt w a0) :
    Calls Tryz.prog 3 #[.int .i64 n, .string s, .slice la l.length lc, .int .i64 atv, .int .u8 c.toNat] w fun e w' => e = .returned (.bool true) ∧ Fr [] w w' := by
  have HSa := Lib.hid (sane10_c a0 w hR hA)
  have hmb := szJ_bound n
  have HBe := Lib.hid fun (W : World) (hf : Fr [] w W) => begin10_c (w0 := w) (w := W) n a0 hn hf hR hA
  have HSz := Lib.hid fun w => size10_c n w hn
  generalize szJ n = m at *
  have HPk := Lib.hid fun w => pick10_c atv m w ha (by omega) (by omega)
  have hpb := pickJ_bound atv m (by omega)
  generalize pickJ atv m = pz at *
  obtain ⟨pk, rfl⟩ := Int.eq_ofNat_of_zero_le hpb.1
  have hpk : pk < m := by omega
  clear hpb
  have hll : l.length ≤ 9223372036854775807 := by have := hsl.caps; omega
  have HSl := Lib.hid hsl; have HLs := Lib.hid hls; have HR := Lib.hid hR; have HA := Lib.hid hA
  clear hsl hls hR hA
  go_enter Tryz.func3, Tryz.ntmps3
  go_wp2_with fail
  refine HSa.out.mono ?_
  rintro e w1 ⟨rfl, f1⟩
  have HF1 := Lib.hid f1
  clear f1 HSa
  go_wp2_with fail
  refine (HBe.out w1 HF1.out).mono ?_
  rintro e w2 ⟨wb, db, xb, fp0, fx0, jb, vr0, rb, vq0, rfl, h2⟩
  have HW := Lib.hid h2
  have HOk : Hid (Dk.new m).Ok := Lib.hid h2.js.ok
  have HD0 : Shut ((Dk.new m).dur.length = m) := ⟨by simp [Dk.new]⟩
  have HP0 : Shut ((Dk.new m).pend.length = 0) := ⟨by simp [Dk.new]⟩
  clear h2 HBe HF1
  generalize Dk.new m = D0 at *
  have hp0 := HP0.out
  by_cases hl : 0 < l.length
  · have c1 : w2.cell? ⟨wb, 1, none⟩ = some (.pointer (some ⟨jb, 0, none⟩)) := cell_of_blk HW.out.blk 1
    go_wp2_with fail
    clear c1
    refine reg_mix (fun W => W.heap[wb]? = some (.cells #[.pointer (some ⟨db, 0, none⟩), .pointer (some ⟨jb, 0, none⟩), .pointer (some ⟨xb, 0, none⟩), .pointer (some ⟨rb, 0, none⟩)] 32 (0, 0))) [0, 1, 2, 3, 4, 5, 6, 7, 8, 9, 10, 13, 14, 15, 16, 17, 11, 12, 18, 19, 20, 21] (by kernel_rfl) (by kernel_rfl) (by kernel_rfl) rfl ((Fr.drew [] w2).keep HW.out.blk (by simp)) ?_
    have HW0 := Lib.hid (HW.out.same (Fr.drew [] w2))
    have FC := HW0.out.blk
    generalize w2.drew = WC at *
    iterate 6 (refine mix_take1 (v := ?_) rfl rfl rfl rfl (fun w hS => ?_) ?_; rotate_left; (focus (have e0 : World.cell? _ ⟨wb, 0, none⟩ = some (.pointer (some ⟨db, 0, none⟩)) := cell_of_blk hS 0; have e1 : World.cell? _ ⟨wb, 1, none⟩ = some (.pointer (some ⟨jb, 0, none⟩)) := cell_of_blk hS 1; have e2 : World.cell? _ ⟨wb, 2, none⟩ = some (.pointer (some ⟨xb, 0, none⟩)) := cell_of_blk hS 2; have e3 : World.cell? _ ⟨wb, 3, none⟩ = some (.pointer (some ⟨rb, 0, none⟩)) := cell_of_blk hS 3; clear hS; go_simp; rfl)); simp only [List.setIfInBounds_toArray, List.set_cons_succ, List.set_cons_zero])
    iterate 5 (refine mix_takeg (v := ?_) rfl rfl rfl rfl rfl rfl (fun w hS => ?_) ?_; rotate_left; (focus (have e0 : World.cell? _ ⟨wb, 0, none⟩ = some (.pointer (some ⟨db, 0, none⟩)) := cell_of_blk hS 0; have e1 : World.cell? _ ⟨wb, 1, none⟩ = some (.pointer (some ⟨jb, 0, none⟩)) := cell_of_blk hS 1; have e2 : World.cell? _ ⟨wb, 2, none⟩ = some (.pointer (some ⟨xb, 0, none⟩)) := cell_of_blk hS 2; have e3 : World.cell? _ ⟨wb, 3, none⟩ = some (.pointer (some ⟨rb, 0, none⟩)) := cell_of_blk hS 3; clear hS; go_simp; rfl)); simp only [List.setIfInBounds_toArray, List.set_cons_succ, List.set_cons_zero])
    iterate 5 (refine mix_takeg (v := ?_) rfl rfl rfl rfl rfl rfl (fun w hS => ?_) ?_; rotate_left; (focus (have e0 : World.cell? _ ⟨wb, 0, none⟩ = some (.pointer (some ⟨db, 0, none⟩)) := cell_of_blk hS 0; have e1 : World.cell? _ ⟨wb, 1, none⟩ = some (.pointer (some ⟨jb, 0, none⟩)) := cell_of_blk hS 1; have e2 : World.cell? _ ⟨wb, 2, none⟩ = some (.pointer (some ⟨xb, 0, none⟩)) := cell_of_blk hS 2; have e3 : World.cell? _ ⟨wb, 3, none⟩ = some (.pointer (some ⟨rb, 0, none⟩)) := cell_of_blk hS 3; clear hS; go_simp; rfl)); simp only [List.setIfInBounds_toArray, List.set_cons_succ, List.set_cons_zero])
    refine mix_dog rfl rfl rfl rfl rfl (fun K hK => ?_)
    go_simp
    refine (few10_c la lc l _ (HSl.out.same HW0.out.js.fr) HLs.out).mono ?_
    rintro e W3 ⟨v3, rfl, r3, y3, f3⟩
    obtain ⟨fa3, fc3, rfl⟩ := (sl_of_row r3).val
    have HW3 := Lib.hid (HW0.out.same f3)
    have HF3 := Lib.hid (HW0.out.far (fun g hg => ⟨y3 g hg, ownsRow_lt r3 hg⟩)); have HS3 := Lib.hid (sl_of_row r3)
    clear r3 y3 f3 FC
    have FC := HW3.out.blk
    refine hK _ _ FC ?_
    clear hK K
    try simp only [Act.put, List.setIfInBounds_toArray, List.set_cons_succ, List.set_cons_zero]
    refine mix_dog rfl rfl rfl rfl rfl (fun K hK => ?_)
    go_simp
    refine (HW3.out.papp HR.out l fa3 fc3 HS3.out (Nat.zero_le _) (by omega)).mono ?_
    rintro e W4 ⟨rfl, vr4, fp4, h4, _⟩
    have HW4 := Lib.hid h4
    clear h4 HW3 FC HS3 HF3
    have FC := HW4.out.blk
    refine hK _ _ FC ?_
    clear hK K
    try simp only [Act.put, List.setIfInBounds_toArray, List.set_cons_succ, List.set_cons_zero]
    refine mix_dog rfl rfl rfl rfl rfl (fun K hK => ?_)
    go_simp
    refine (few10_c la lc l _ (HSl.out.same HW4.out.js.fr) HLs.out).mono ?_
    rintro e W5 ⟨v5, rfl, r5, y5, f5⟩
    obtain ⟨fa5, fc5, rfl⟩ := (sl_of_row r5).val
    have HW5 := Lib.hid (HW4.out.same f5)
    have HF5 := Lib.hid (HW4.out.far (fun g hg => ⟨y5 g hg, ownsRow_lt r5 hg⟩)); have HS5 := Lib.hid (sl_of_row r5)
    clear r5 y5 f5 FC
    have FC := HW5.out.blk
    refine hK _ _ FC ?_
    clear hK K
    try simp only [Act.put, List.setIfInBounds_toArray, List.set_cons_succ, List.set_cons_zero]
    refine mix_dog rfl rfl rfl rfl rfl (fun K hK => ?_)
    go_simp
    refine (HW5.out.rapp l fa5 fc5 HS5.out HF5.out (Nat.zero_le _) (by simp) (by omega)).mono ?_
    rintro e W6 ⟨rfl, vq6, fx6, h6, _⟩
    have HW6 := Lib.hid h6
    clear h6 HW5 FC HS5 HF5
    have FC := HW6.out.blk
    refine hK _ _ FC ?_
    clear hK K
    try simp only [Act.put, List.setIfInBounds_toArray, List.set_cons_succ, List.set_cons_zero]
    (refine mix_takeg (v := ?_) rfl rfl rfl rfl rfl rfl (fun w hS => ?_) ?_; rotate_left; (focus (have e0 : World.cell? _ ⟨wb, 0, none⟩ = some (.pointer (some ⟨db, 0, none⟩)) := cell_of_blk hS 0; have e1 : World.cell? _ ⟨wb, 1, none⟩ = some (.pointer (some ⟨jb, 0, none⟩)) := cell_of_blk hS 1; have e2 : World.cell? _ ⟨wb, 2, none⟩ = some (.pointer (some ⟨xb, 0, none⟩)) := cell_of_blk hS 2; have e3 : World.cell? _ ⟨wb, 3, none⟩ = some (.pointer (some ⟨rb, 0, none⟩)) := cell_of_blk hS 3; clear hS; go_simp; rfl)); simp only [List.setIfInBounds_toArray, List.set_cons_succ, List.set_cons_zero])
    (refine mix_take1 (v := ?_) rfl rfl rfl rfl (fun w hS => ?_) ?_; rotate_left; (focus (have e0 : World.cell? _ ⟨wb, 0, none⟩ = some (.pointer (some ⟨db, 0, none⟩)) := cell_of_blk hS 0; have e1 : World.cell? _ ⟨wb, 1, none⟩ = some (.pointer (some ⟨jb, 0, none⟩)) := cell_of_blk hS 1; have e2 : World.cell? _ ⟨wb, 2, none⟩ = some (.pointer (some ⟨xb, 0, none⟩)) := cell_of_blk hS 2; have e3 : World.cell? _ ⟨wb, 3, none⟩ = some (.pointer (some ⟨rb, 0, none⟩)) := cell_of_blk hS 3; clear hS; go_simp; rfl)); simp only [List.setIfInBounds_toArray, List.set_cons_succ, List.set_cons_zero])
    refine mix_end ?_

    go_wp2_with fail
    clear HW0 HW HW4 FC
    obtain ⟨k1, k2, k3⟩ := apps_okD HOk.out (t := tp0.adds []) ⟨[], rfl, Nat.zero_le _, by simp⟩ false (fewM l)
    have HOk6 := Lib.hid HW6.out.js.ok
    rw [HP0.out] at k2
    have HL6 : Shut ((D0.apps (tp0.adds []) false (fewM l)).2.2.2.dur.length = m) := ⟨by rw [k1, HD0.out]⟩
    clear k1 k3
    have HWW : Hid (∃ p q, Wd w W6 wb db xb (.pointer (some ⟨jb, 0, none⟩)) (.pointer (some ⟨rb, 0, none⟩)) fp4 fx6 (D0.apps (tp0.adds []) false (fewM l)).2.2.2 (D0.apps (tp0.adds []) false (fewM l)).2.2.2 p q) := Lib.hid ⟨_, _, HW6.out⟩
    clear HW6
    generalize (D0.apps (tp0.adds []) false (fewM l)).2.2.2 = D6 at *
    obtain ⟨p6, q6, h6⟩ := HWW.out
    have HW6 := Lib.hid h6
    clear h6 HWW HOk HD0 HP0 hp0
    have c0 : W6.cell? ⟨wb, 0, none⟩ = some (.pointer (some ⟨db, 0, none⟩)) := cell_of_blk HW6.out.blk 0
    go_wp2_with fail
    refine reg_inv (Fr [] W6) 11 [0, 1, 2, 3, 4, 5, 8] [(6, []), (7, [6]), (9, []), (10, [9])] (by kernel_rfl) (by kernel_rfl) (by kernel_rfl) (by kernel_rfl) (by kernel_rfl) ?_
    have S0 : Fr [] W6 W6.drew := Fr.drew _ _
    generalize W6.drew = WD at S0 ⊢
    iterate 7 (refine tk_take (v := ?_) rfl rfl rfl S0 (fun w hS => ?_) ?_; rotate_left; (focus (have e0 := hS.cel c0 (by simp); clear hS; go_simp; rfl)); simp only [List.setIfInBounds_toArray, List.set_cons_succ, List.set_cons_zero])
    refine inv_start [(6, 54), (7, 55), (9, 57), (10, 58)] (ByP m pk c) (by decide) S0 ⟨fun g W hS hD => ?_, fun g W hS hD => ?_, fun g W hS hD => ?_, fun g W hS hD => ?_, trivial⟩ (fun g W hS hD => ?_)
    · refine inv_op rfl rfl (fun K hK => ?_)
      simp only [putG, putT, List.setIfInBounds_toArray, List.set_cons_succ, List.set_cons_zero] at hK ⊢
      go_simp
      refine (HSz.out _).mono ?_
      rintro e _ ⟨rfl, rfl⟩
      exact hK _ _ hS rfl (fun _ _ _ h => h)
    · have h6 : g 6 = .int .i64 m := hD 6 (by simp)
      refine inv_op rfl rfl (fun K hK => ?_)
      simp only [putG, putT, List.setIfInBounds_toArray, List.set_cons_succ, List.set_cons_zero] at hK ⊢
      simp only [upG, Nat.reduceEqDiff, if_false, if_true] at hK
      rw [h6] at hK ⊢
      go_simp
      refine (HPk.out _).mono ?_
      rintro e _ ⟨rfl, rfl⟩
      exact hK _ _ hS rfl (fun _ _ _ h => h)
    · refine inv_op rfl rfl (fun K hK => ?_)
      simp only [putG, putT, List.setIfInBounds_toArray, List.set_cons_succ, List.set_cons_zero] at hK ⊢
      have fa := Fr.alloc [] W (.cells (byteCells [c]).toArray 5)
      go_simp
      exact hK _ _ (hS.trans fa) ⟨_, rfl, heap_alloc_new _ _⟩ (fun _ _ _ h => h.same fa)
    · obtain ⟨b9, e9, h9⟩ : ∃ b, g 9 = .slice (some ⟨b, 0, none⟩) 1 1 ∧ W.heap[b]? = some (.cells (byteCells [c]).toArray 5 (0, 0)) := hD 9 (by simp)
      refine inv_op rfl rfl (fun K hK => ?_)
      simp only [putG, putT, List.setIfInBounds_toArray, List.set_cons_succ, List.set_cons_zero] at hK ⊢
      simp only [upG, Nat.reduceEqDiff, if_false, if_true] at hK
      rw [e9] at hK ⊢
      exact wp_sl_str0 (.tmp 57) rfl b9 1 [c] rfl h9 rfl (hK _ _ hS rfl (fun _ _ _ h => h))
    · have h7 : g 7 = .int .i64 pk := hD (7, [6]) (by simp)
      have h10 : g 10 = .string (str [c]) := hD (10, [9]) (by simp)
      refine inv_fin rfl rfl (fun K hK => ?_)
      simp only [putG, putT, List.setIfInBounds_toArray, List.set_cons_succ, List.set_cons_zero] at hK ⊢
      rw [h7, h10]
      generalize g 6 = g6 at *
      generalize g 9 = g9 at *
      clear hD h7 h10
      go_simp
      refine ((HW6.out.same hS).pwrite pk (str [c]) (by omega) (by omega) (by rw [str_size]; simp) (by omega)).mono ?_
      rintro e W8 ⟨rfl, fp8, h8⟩
      have HW8 := Lib.hid h8
      clear h8 hS
      try go_upon
      try go_simp
      refine hK _ _ ?_
      clear hK K
      refine noPanicN ?_
      have c2 : W8.cell? ⟨wb, 2, none⟩ = some (.pointer (some ⟨xb, 0, none⟩)) := cell_of_blk HW8.out.blk 2
      go_wp2_with fail
      refine reg_inv (Fr [] W8) 11 [0, 1, 2, 3, 4, 5, 8] [(6, []), (7, [6]), (9, []), (10, [9])] (by kernel_rfl) (by kernel_rfl) (by kernel_rfl) (by kernel_rfl) (by kernel_rfl) ?_
      have S0 : Fr [] W8 W8.drew := Fr.drew _ _
      generalize W8.drew = WD at S0 ⊢
      iterate 7 (refine tk_take (v := ?_) rfl rfl rfl S0 (fun w hS => ?_) ?_; rotate_left; (focus (have e0 := hS.cel c2 (by simp); clear hS; go_simp; rfl)); simp only [List.setIfInBounds_toArray, List.set_cons_succ, List.set_cons_zero])
      refine inv_start [(6, 66), (7, 67), (9, 69), (10, 70)] (ByP m pk c) (by decide) S0 ⟨fun g W hS hD => ?_, fun g W hS hD => ?_, fun g W hS hD => ?_, fun g W hS hD => ?_, trivial⟩ (fun g W hS hD => ?_)
      · refine inv_op rfl rfl (fun K hK => ?_)
        simp only [putG, putT, List.setIfInBounds_toArray, List.set_cons_succ, List.set_cons_zero] at hK ⊢
        go_simp
        refine (HSz.out _).mono ?_
        rintro e _ ⟨rfl, rfl⟩
        exact hK _ _ hS rfl (fun _ _ _ h => h)
      · have h6 : g 6 = .int .i64 m := hD 6 (by simp)
        refine inv_op rfl rfl (fun K hK => ?_)
        simp only [putG, putT, List.setIfInBounds_toArray, List.set_cons_succ, List.set_cons_zero] at hK ⊢
        simp only [upG, Nat.reduceEqDiff, if_false, if_true] at hK
        rw [h6] at hK ⊢
        go_simp
        refine (HPk.out _).mono ?_
        rintro e _ ⟨rfl, rfl⟩
        exact hK _ _ hS rfl (fun _ _ _ h => h)
      · refine inv_op rfl rfl (fun K hK => ?_)
        simp only [putG, putT, List.setIfInBounds_toArray, List.set_cons_succ, List.set_cons_zero] at hK ⊢
        have fa := Fr.alloc [] W (.cells (byteCells [c]).toArray 5)
        go_simp
        exact hK _ _ (hS.trans fa) ⟨_, rfl, heap_alloc_new _ _⟩ (fun _ _ _ h => h.same fa)
      · obtain ⟨b9, e9, h9⟩ : ∃ b, g 9 = .slice (some ⟨b, 0, none⟩) 1 1 ∧ W.heap[b]? = some (.cells (byteCells [c]).toArray 5 (0, 0)) := hD 9 (by simp)
        refine inv_op rfl rfl (fun K hK => ?_)
        simp only [putG, putT, List.setIfInBounds_toArray, List.set_cons_succ, List.set_cons_zero] at hK ⊢
        simp only [upG, Nat.reduceEqDiff, if_false, if_true] at hK
        rw [e9] at hK ⊢
        exact wp_sl_str0 (.tmp 69) rfl b9 1 [c] rfl h9 rfl (hK _ _ hS rfl (fun _ _ _ h => h))
      · have h7 : g 7 = .int .i64 pk := hD (7, [6]) (by simp)
        have h10 : g 10 = .string (str [c]) := hD (10, [9]) (by simp)
        refine inv_fin rfl rfl (fun K hK => ?_)
        simp only [putG, putT, List.setIfInBounds_toArray, List.set_cons_succ, List.set_cons_zero] at hK ⊢
        rw [h7, h10]
        generalize g 6 = g6 at *
        generalize g 9 = g9 at *
        clear hD h7 h10
        go_simp
        refine ((HW8.out.same hS).rwrite pk (str [c]) (by omega) (by omega) (by rw [str_size]; simp) (by omega)).mono ?_
        rintro e W9 ⟨rfl, fx9, h9⟩
        have HW9 := Lib.hid h9
        clear h9 hS
        try go_upon
        try go_simp
        refine hK _ _ ?_
        clear hK K
        refine noPanicN ?_
        obtain ⟨k1, k2⟩ := writeD_len HOk6.out (pk : Int) (str [c])
        have HO9 : Shut ((D6.writeD (pk : Int) (str [c])).dur.length = m) := ⟨by rw [k1, HL6.out]⟩
        have HOp := Lib.hid (wOpen10_s HW9.out HR.out HA.out (by omega))
        have HPX : Shut (∀ t, (D6.writeD (pk : Int) (str [c])).opens.2.1 = some t → (D6.writeD (pk : Int) (str [c])).opens.2.2.off = false) := ⟨fun t => opens_on⟩
        obtain ⟨q1, q2, _, _⟩ := opens_okD HW9.out.js.ok
        rw [HO9.out] at q1
        have HPE : Shut ((D6.writeD (pk : Int) (str [c])).opens.2.2.pend.length ≤ 100) := ⟨by omega⟩
        have HLE : Shut ((D6.writeD (pk : Int) (str [c])).opens.2.2.dur.length = m) := ⟨q1⟩
        clear k1 k2 q1 q2 HW9 HO9
        generalize (D6.writeD (pk : Int) (str [c])).opens = o at *
        go_wp2_with fail
        refine HOp.out.mono ?_
        rintro e W ⟨rfl, fp, fx, p, q, hW, hb, hpm⟩
        clear HOp
        obtain ⟨oe, ot, D'⟩ := o
        simp only at hW hb hpm
        obtain ⟨sv, pv, hi, _⟩ := hW.rf
        have c0 : W.cell? ⟨wb, 0, none⟩ = some (.pointer (some ⟨db, 0, none⟩)) := cell_of_blk hW.blk 0
        have c1 : W.cell? ⟨wb, 1, none⟩ = some (pP p) := cell_of_blk hW.blk 1
        have c2 : W.cell? ⟨wb, 2, none⟩ = some (.pointer (some ⟨xb, 0, none⟩)) := cell_of_blk hW.blk 2
        have c3 : W.cell? ⟨wb, 3, none⟩ = some (pP q) := cell_of_blk hW.blk 3
        have HWC := Lib.hid hW
        have HPE' : D'.pend.length ≤ 100 := HPE.out
        have HLE' : D'.dur.length = m := HLE.out
        have HVI := Lib.hid fun (W1 : World) (f : Fr [] W W1) => rVisible_c xb sv pv D' W1 (hi.same f) (by omega)
        have HVL : Shut (D'.vis.length = D'.dur.length) := ⟨hi.ok.len⟩
        have HB := Lib.hid hb; have HPM := Lib.hid hpm
        clear hi hW hb hpm
        rcases HB.out with ⟨rfl, rfl⟩ | ⟨jb', vr, rb', vq, L, br, rfl, rfl, hL1, _⟩
        · simp only [pP] at c1 c3
          go_wp2_with fail
          refine reg_mix (Fr [] W) [0, 1, 2, 3, 4, 5, 6, 7, 8, 9, 10, 11, 12, 13, 14, 16, 17, 18, 19, 20, 21, 22, 15, 23, 24, 25, 26, 27, 28, 30, 31, 32, 33, 29, 34, 35, 36, 37, 38, 39, 40, 41, 43, 44, 45, 46, 42, 47, 48, 49, 50, 51, 52, 53] (by kernel_rfl) (by kernel_rfl) (by kernel_rfl) rfl (Fr.drew _ _) ?_
          have FC : Fr [] W W.drew := Fr.drew _ _
          generalize W.drew = WC at FC ⊢
          iterate 2 (refine mix_take1 (v := ?_) rfl rfl rfl rfl (fun w hS => ?_) ?_; rotate_left; (focus (have e1 := hS.cel c1 (by simp); clear hS; go_simp; rfl)); simp only [List.setIfInBounds_toArray, List.set_cons_succ, List.set_cons_zero])
          (refine mix_takeg (v := ?_) rfl rfl rfl rfl rfl rfl (fun w hS => ?_) ?_; rotate_left; (focus (have e1 := hS.cel c1 (by simp); clear hS; go_simp; rfl)); simp only [List.setIfInBounds_toArray, List.set_cons_succ, List.set_cons_zero])
          iterate 2 (refine mix_take1 (v := ?_) rfl rfl rfl rfl (fun w hS => ?_) ?_; rotate_left; (focus (have e1 := hS.cel c1 (by simp); clear hS; go_simp; rfl)); simp only [List.setIfInBounds_toArray, List.set_cons_succ, List.set_cons_zero])
          iterate 6 (refine mix_takeg (v := ?_) rfl rfl rfl rfl rfl rfl (fun w hS => ?_) ?_; rotate_left; (focus (have e1 := hS.cel c1 (by simp); clear hS; go_simp; rfl)); simp only [List.setIfInBounds_toArray, List.set_cons_succ, List.set_cons_zero])
          iterate 14 (refine mix_skipF rfl rfl rfl rfl rfl FC ?_; simp only [List.setIfInBounds_toArray, List.set_cons_succ, List.set_cons_zero])
          iterate 11 (refine mix_skipU rfl rfl rfl rfl rfl FC ?_; simp only [List.setIfInBounds_toArray, List.set_cons_succ, List.set_cons_zero])
          iterate 2 (refine mix_skipF rfl rfl rfl rfl rfl FC ?_; simp only [List.setIfInBounds_toArray, List.set_cons_succ, List.set_cons_zero])
          iterate 12 (refine mix_skipU rfl rfl rfl rfl rfl FC ?_; simp only [List.setIfInBounds_toArray, List.set_cons_succ, List.set_cons_zero])
          (refine mix_skipF rfl rfl rfl rfl rfl FC ?_; simp only [List.setIfInBounds_toArray, List.set_cons_succ, List.set_cons_zero])
          (refine mix_takeg (v := ?_) rfl rfl rfl rfl rfl rfl (fun w hS => ?_) ?_; rotate_left; (focus (have e1 := hS.cel c1 (by simp); clear hS; go_simp; rfl)); simp only [List.setIfInBounds_toArray, List.set_cons_succ, List.set_cons_zero])
          iterate 2 (refine mix_take1 (v := ?_) rfl rfl rfl rfl (fun w hS => ?_) ?_; rotate_left; (focus (have e1 := hS.cel c1 (by simp); clear hS; go_simp; rfl)); simp only [List.setIfInBounds_toArray, List.set_cons_succ, List.set_cons_zero])
          refine mix_end ?_

          go_wp2_with fail
          go_ret
          exact ⟨rfl, HWC.out.js.fr.trans FC⟩
        · have ho : D'.off = false := by
            have := HPM.out
            cases ot with
            | none => simp at this
            | some t => exact HPX.out t rfl
          have HCO := Lib.hid fun (W1 : World) (f : Fr [] W W1) => content10_c db fp D' W1 (HWC.out.js.disk.keep f (by simp)) ho
          have hLm : L.length ≤ 1500 := by have := len_le_enc L; omega
          have hj := HWC.out.rj _ rfl
          have hq := sl_of_row hj.row
          have HQ1 : Shut ((tp0.adds L).recs = L) := ⟨tpL_recs L⟩
          rw [HQ1.out] at hq
          obtain ⟨qa, qc, rfl⟩ := hq.val
          have HQ := Lib.hid hq
          have y1 : W.cell? ⟨rb', 1, none⟩ = some (.slice qa L.length qc) := cell_of_blk hj.blk 1
          simp only [pP] at c1 c3
          have HRo := Lib.hid fun (W1 : World) (f : Fr [] W W1) => room_s (L := L) (HWC.out.js.same f) (List.mem_singleton.2 rfl) (by omega)
          have HRr := Lib.hid fun (W1 : World) (f : Fr [] W W1) => (HWC.out.same f).room hL1
          clear hj hq HPM ho
          go_wp2_with fail
          refine reg_mix (Fr [] W) [0, 1, 2, 3, 4, 5, 6, 7, 8, 9, 10, 11, 12, 13, 14, 16, 17, 18, 19, 20, 21, 22, 15, 23, 24, 25, 26, 27, 28, 30, 31, 32, 33, 29, 34, 35, 36, 37, 38, 39, 40, 41, 43, 44, 45, 46, 42, 47, 48, 49, 50, 51, 52, 53] (by kernel_rfl) (by kernel_rfl) (by kernel_rfl) rfl (Fr.drew _ _) ?_
          have FC : Fr [] W W.drew := Fr.drew _ _
          generalize W.drew = WC at FC ⊢
          iterate 2 (refine mix_take1 (v := ?_) rfl rfl rfl rfl (fun w hS => ?_) ?_; rotate_left; (focus (have e0 := hS.cel c0 (by simp); have e1 := hS.cel c1 (by simp); have e2 := hS.cel c2 (by simp); have e3 := hS.cel c3 (by simp); have z1 := hS.cel y1 (by simp); clear hS; go_simp; rfl)); simp only [List.setIfInBounds_toArray, List.set_cons_succ, List.set_cons_zero])
          (refine mix_takeg (v := ?_) rfl rfl rfl rfl rfl rfl (fun w hS => ?_) ?_; rotate_left; (focus (have e0 := hS.cel c0 (by simp); have e1 := hS.cel c1 (by simp); have e2 := hS.cel c2 (by simp); have e3 := hS.cel c3 (by simp); have z1 := hS.cel y1 (by simp); clear hS; go_simp; rfl)); simp only [List.setIfInBounds_toArray, List.set_cons_succ, List.set_cons_zero])
          iterate 2 (refine mix_take1 (v := ?_) rfl rfl rfl rfl (fun w hS => ?_) ?_; rotate_left; (focus (have e0 := hS.cel c0 (by simp); have e1 := hS.cel c1 (by simp); have e2 := hS.cel c2 (by simp); have e3 := hS.cel c3 (by simp); have z1 := hS.cel y1 (by simp); clear hS; go_simp; rfl)); simp only [List.setIfInBounds_toArray, List.set_cons_succ, List.set_cons_zero])
          iterate 10 (refine mix_takeg (v := ?_) rfl rfl rfl rfl rfl rfl (fun w hS => ?_) ?_; rotate_left; (focus (have e0 := hS.cel c0 (by simp); have e1 := hS.cel c1 (by simp); have e2 := hS.cel c2 (by simp); have e3 := hS.cel c3 (by simp); have z1 := hS.cel y1 (by simp); clear hS; go_simp; rfl)); simp only [List.setIfInBounds_toArray, List.set_cons_succ, List.set_cons_zero])
          iterate 7 (refine mix_takeg (v := ?_) rfl rfl rfl rfl rfl rfl (fun w hS => ?_) ?_; rotate_left; (focus (have e0 := hS.cel c0 (by simp); have e1 := hS.cel c1 (by simp); have e2 := hS.cel c2 (by simp); have e3 := hS.cel c3 (by simp); have z1 := hS.cel y1 (by simp); clear hS; go_simp; rfl)); simp only [List.setIfInBounds_toArray, List.set_cons_succ, List.set_cons_zero])
          refine mix_dog rfl rfl rfl rfl rfl (fun K hK => ?_)
          go_simp
          refine (rec_r (L := L) (HWC.out.js.same FC) (List.mem_singleton.2 rfl) (by omega)).mono ?_
          rintro e w6 ⟨ra, rc, rfl, r6, f6, _⟩
          have FC := FC.trans f6
          have S6 := Lib.hid (sl_of_row r6)
          clear r6 f6
          refine hK _ _ FC ?_
          clear hK K
          try simp only [Act.put, List.setIfInBounds_toArray, List.set_cons_succ, List.set_cons_zero]
          refine mix_dog rfl rfl rfl rfl rfl (fun K hK => ?_)
          go_simp
          refine (same10_c ra qa rc qc L L _ S6.out (HQ.out.same FC)).mono ?_
          rintro e w7 ⟨rfl, f7⟩
          rw [decide_eq_true (rfl : L = L)]
          have FC := FC.trans f7
          clear f7 S6
          refine hK _ _ FC ?_
          clear hK K
          try simp only [Act.put, List.setIfInBounds_toArray, List.set_cons_succ, List.set_cons_zero]
          (refine mix_takeg (v := ?_) rfl rfl rfl rfl rfl rfl (fun w hS => ?_) ?_; rotate_left; (focus (have e0 := hS.cel c0 (by simp); have e1 := hS.cel c1 (by simp); have e2 := hS.cel c2 (by simp); have e3 := hS.cel c3 (by simp); have z1 := hS.cel y1 (by simp); clear hS; go_simp; rfl)); simp only [List.setIfInBounds_toArray, List.set_cons_succ, List.set_cons_zero])
          iterate 4 (refine mix_takeg (v := ?_) rfl rfl rfl rfl rfl rfl (fun w hS => ?_) ?_; rotate_left; (focus (have e0 := hS.cel c0 (by simp); have e1 := hS.cel c1 (by simp); have e2 := hS.cel c2 (by simp); have e3 := hS.cel c3 (by simp); have z1 := hS.cel y1 (by simp); clear hS; go_simp; rfl)); simp only [List.setIfInBounds_toArray, List.set_cons_succ, List.set_cons_zero])
          iterate 4 (refine mix_takeg (v := ?_) rfl rfl rfl rfl rfl rfl (fun w hS => ?_) ?_; rotate_left; (focus (have e0 := hS.cel c0 (by simp); have e1 := hS.cel c1 (by simp); have e2 := hS.cel c2 (by simp); have e3 := hS.cel c3 (by simp); have z1 := hS.cel y1 (by simp); clear hS; go_simp; rfl)); simp only [List.setIfInBounds_toArray, List.set_cons_succ, List.set_cons_zero])
          refine mix_dog rfl rfl rfl rfl rfl (fun K hK => ?_)
          go_simp
          refine (HRo.out _ FC).mono ?_
          rintro e wq ⟨rfl, fq⟩
          have FC := FC.trans fq
          clear fq
          refine hK _ _ FC ?_
          clear hK K
          try simp only [Act.put, List.setIfInBounds_toArray, List.set_cons_succ, List.set_cons_zero]
          refine mix_dog rfl rfl rfl rfl rfl (fun K hK => ?_)
          go_simp
          refine (HRr.out _ FC).mono ?_
          rintro e wq ⟨rfl, fq⟩
          have FC := FC.trans fq
          clear fq
          refine hK _ _ FC ?_
          clear hK K
          try simp only [Act.put, List.setIfInBounds_toArray, List.set_cons_succ, List.set_cons_zero]
          iterate 3 (refine mix_takeg (v := ?_) rfl rfl rfl rfl rfl rfl (fun w hS => ?_) ?_; rotate_left; (focus (have e0 := hS.cel c0 (by simp); have e1 := hS.cel c1 (by simp); have e2 := hS.cel c2 (by simp); have e3 := hS.cel c3 (by simp); have z1 := hS.cel y1 (by simp); clear hS; go_simp; rfl)); simp only [List.setIfInBounds_toArray, List.set_cons_succ, List.set_cons_zero])
          iterate 4 (refine mix_takeg (v := ?_) rfl rfl rfl rfl rfl rfl (fun w hS => ?_) ?_; rotate_left; (focus (have e0 := hS.cel c0 (by simp); have e1 := hS.cel c1 (by simp); have e2 := hS.cel c2 (by simp); have e3 := hS.cel c3 (by simp); have z1 := hS.cel y1 (by simp); clear hS; go_simp; rfl)); simp only [List.setIfInBounds_toArray, List.set_cons_succ, List.set_cons_zero])
          iterate 4 (refine mix_takeg (v := ?_) rfl rfl rfl rfl rfl rfl (fun w hS => ?_) ?_; rotate_left; (focus (have e0 := hS.cel c0 (by simp); have e1 := hS.cel c1 (by simp); have e2 := hS.cel c2 (by simp); have e3 := hS.cel c3 (by simp); have z1 := hS.cel y1 (by simp); clear hS; go_simp; rfl)); simp only [List.setIfInBounds_toArray, List.set_cons_succ, List.set_cons_zero])
          refine mix_dog rfl rfl rfl rfl rfl (fun K hK => ?_)
          go_simp
          refine (HCO.out _ FC).mono ?_
          rintro e w00 ⟨rfl, rfl⟩
          refine hK _ _ FC ?_
          clear hK K
          try simp only [Act.put, List.setIfInBounds_toArray, List.set_cons_succ, List.set_cons_zero]
          refine mix_dog rfl rfl rfl rfl rfl (fun K hK => ?_)
          go_simp
          refine (HVI.out _ FC).mono ?_
          rintro e wv ⟨gv, vc, rfl, xv, fv, _⟩
          have XV := Lib.hid xv
          have FC := FC.trans fv
          clear xv fv
          refine hK _ _ FC ?_
          clear hK K
          try simp only [Act.put, List.setIfInBounds_toArray, List.set_cons_succ, List.set_cons_zero]
          refine mix_dog (o := ⟨some 146, _, _, _, _, _⟩) rfl rfl rfl rfl rfl (fun K hK => ?_)
          refine wp_bytes_row (.tmp 145) 39 9 5 rfl Tryz.underlying39 Tryz.underlying5 Tryz.underlying9 gv 0 D'.dur.length vc D'.dur.length vc D'.vis 5 rfl XV.out (by omega) (hK _ _ FC ?_)
          clear hK K XV
          rw [str_take HVL.out]
          try simp only [Act.put, List.setIfInBounds_toArray, List.set_cons_succ, List.set_cons_zero]
          iterate 3 (refine mix_takeg (v := ?_) rfl rfl rfl rfl rfl rfl (fun w hS => ?_) ?_; rotate_left; (focus (have e0 := hS.cel c0 (by simp); have e1 := hS.cel c1 (by simp); have e2 := hS.cel c2 (by simp); have e3 := hS.cel c3 (by simp); have z1 := hS.cel y1 (by simp); clear hS; go_simp; rfl)); simp only [List.setIfInBounds_toArray, List.set_cons_succ, List.set_cons_zero])
          iterate 2 (refine mix_take1 (v := ?_) rfl rfl rfl rfl (fun w hS => ?_) ?_; rotate_left; (focus (have e0 := hS.cel c0 (by simp); have e1 := hS.cel c1 (by simp); have e2 := hS.cel c2 (by simp); have e3 := hS.cel c3 (by simp); have z1 := hS.cel y1 (by simp); clear hS; go_simp; rfl)); simp only [List.setIfInBounds_toArray, List.set_cons_succ, List.set_cons_zero])
          refine mix_end ?_

          go_wp2_with fail
          go_ret
          exact ⟨rfl, HWC.out.js.fr.trans FC⟩
  · have hl0 : l.length = 0 := by omega
    have HL6 : Shut (D0.dur.length = m) := ⟨HD0.out⟩
    have HOk6 := Lib.hid HOk.out
    have HW6 := Lib.hid HW.out
    have c0 : w2.cell? ⟨wb, 0, none⟩ = some (.pointer (some ⟨db, 0, none⟩)) := cell_of_blk HW.out.blk 0
    obtain ⟨ms, hms⟩ : ∃ q, min s.size m = q := ⟨_, rfl⟩
    have hi1 : min (s.size : Int) (m : Int) = (ms : Int) := by omega
    have hi2 : (if (m : Int) < (s.size : Int) then (m : Int) else (s.size : Int)) = (ms : Int) := by split <;> omega
    have hm1 : ms ≤ s.size := by omega
    have hm2 : (s.extract 0 ms).size ≤ 9223372036854775807 := by simp; omega
    go_wp2_with fail
    refine reg_tree (Fr [] w2) 11 (.take 0 (.take 1 (.take 2 (.take 3 (.take 4 (.take 5 (.take 6 (.take 7 (.one 8 (.take 9 (.take 10 (.one 11 .nil)))))))))))) (by kernel_rfl) (by kernel_rfl) (by kernel_rfl) rfl ?_
    have F0 : Fr [] w2 w2.drew := Fr.drew _ _
    generalize w2.drew = WD at F0 ⊢
    iterate 8 (refine tree_take (v := ?_) rfl rfl rfl F0 (fun w hS => ?_) ?_; rotate_left; (focus (have e0 := hS.cel c0 (by simp); clear hS; go_simp; rfl)); simp only [List.setIfInBounds_toArray, List.set_cons_succ, List.set_cons_zero])
    refine tree_one rfl rfl (fun K hK => ?_)
    go_simp
    refine (HSz.out _).mono ?_
    rintro e _ ⟨rfl, rfl⟩
    refine hK _ _ F0 ?_
    clear hK K
    try simp only [Act.put, List.setIfInBounds_toArray, List.set_cons_succ, List.set_cons_zero]
    refine tree_take (v := .int .i64 ms) rfl rfl rfl F0 (fun w hS => ?_) ?_
    · (clear hS; go_simp)
    simp only [List.setIfInBounds_toArray, List.set_cons_succ, List.set_cons_zero]
    (refine tree_take (v := ?_) rfl rfl rfl F0 (fun w hS => ?_) ?_; rotate_left; (focus (clear hS; go_simp; rfl)); simp only [List.setIfInBounds_toArray, List.set_cons_succ, List.set_cons_zero])
    refine tree_last rfl rfl (fun K hK => ?_)
    go_simp
    refine ((HW6.out.same F0).pwrite 0 (s.extract 0 ms) (by omega) (by omega) hm2 (by omega)).mono ?_
    rintro e W8 ⟨rfl, fp8, h8⟩
    have HW8 := Lib.hid h8
    clear h8 F0
    try go_upon
    try go_simp
    refine hK _ _ ?_
    clear hK K
    refine noPanicN ?_
    have c2 : W8.cell? ⟨wb, 2, none⟩ = some (.pointer (some ⟨xb, 0, none⟩)) := cell_of_blk HW8.out.blk 2
    go_wp2_with fail
    refine reg_tree (Fr [] W8) 11 (.take 0 (.take 1 (.take 2 (.take 3 (.take 4 (.take 5 (.take 6 (.take 7 (.one 8 (.take 9 (.take 10 (.one 11 .nil)))))))))))) (by kernel_rfl) (by kernel_rfl) (by kernel_rfl) rfl ?_
    have F0 : Fr [] W8 W8.drew := Fr.drew _ _
    generalize W8.drew = WD at F0 ⊢
    iterate 8 (refine tree_take (v := ?_) rfl rfl rfl F0 (fun w hS => ?_) ?_; rotate_left; (focus (have e0 := hS.cel c2 (by simp); clear hS; go_simp; rfl)); simp only [List.setIfInBounds_toArray, List.set_cons_succ, List.set_cons_zero])
    refine tree_one rfl rfl (fun K hK => ?_)
    go_simp
    refine (HSz.out _).mono ?_
    rintro e _ ⟨rfl, rfl⟩
    refine hK _ _ F0 ?_
    clear hK K
    try simp only [Act.put, List.setIfInBounds_toArray, List.set_cons_succ, List.set_cons_zero]
    refine tree_take (v := .int .i64 ms) rfl rfl rfl F0 (fun w hS => ?_) ?_
    · (clear hS; go_simp)
    simp only [List.setIfInBounds_toArray, List.set_cons_succ, List.set_cons_zero]
    (refine tree_take (v := ?_) rfl rfl rfl F0 (fun w hS => ?_) ?_; rotate_left; (focus (clear hS; go_simp; rfl)); simp only [List.setIfInBounds_toArray, List.set_cons_succ, List.set_cons_zero])
    refine tree_last rfl rfl (fun K hK => ?_)
    go_simp
    refine ((HW8.out.same F0).rwrite 0 (s.extract 0 ms) (by omega) (by omega) hm2 (by omega)).mono ?_
    rintro e W9 ⟨rfl, fx9, h9⟩
    have HW9 := Lib.hid h9
    clear h9 F0
    try go_upon
    try go_simp
    refine hK _ _ ?_
    clear hK K
    refine noPanicN ?_
    obtain ⟨k1, k2⟩ := writeD_len HOk6.out (0 : Int) (s.extract 0 ms)
    have HO9 : Shut ((D0.writeD (0 : Int) (s.extract 0 ms)).dur.length = m) := ⟨by rw [k1, HL6.out]⟩
    have HOp := Lib.hid (wOpen10_s HW9.out HR.out HA.out (by omega))
    have HPX : Shut (∀ t, (D0.writeD (0 : Int) (s.extract 0 ms)).opens.2.1 = some t → (D0.writeD (0 : Int) (s.extract 0 ms)).opens.2.2.off = false) := ⟨fun t => opens_on⟩
    obtain ⟨q1, q2, _, _⟩ := opens_okD HW9.out.js.ok
    rw [HO9.out] at q1
    have HPE : Shut ((D0.writeD (0 : Int) (s.extract 0 ms)).opens.2.2.pend.length ≤ 100) := ⟨by omega⟩
    have HLE : Shut ((D0.writeD (0 : Int) (s.extract 0 ms)).opens.2.2.dur.length = m) := ⟨q1⟩
    clear k1 k2 q1 q2 HW9 HO9
    generalize (D0.writeD (0 : Int) (s.extract 0 ms)).opens = o at *
    go_wp2_with fail
    refine HOp.out.mono ?_
    rintro e W ⟨rfl, fp, fx, p, q, hW, hb, hpm⟩
    clear HOp
    obtain ⟨oe, ot, D'⟩ := o
    simp only at hW hb hpm
    obtain ⟨sv, pv, hi, _⟩ := hW.rf
    have c0 : W.cell? ⟨wb, 0, none⟩ = some (.pointer (some ⟨db, 0, none⟩)) := cell_of_blk hW.blk 0
    have c1 : W.cell? ⟨wb, 1, none⟩ = some (pP p) := cell_of_blk hW.blk 1
    have c2 : W.cell? ⟨wb, 2, none⟩ = some (.pointer (some ⟨xb, 0, none⟩)) := cell_of_blk hW.blk 2
    have c3 : W.cell? ⟨wb, 3, none⟩ = some (pP q) := cell_of_blk hW.blk 3
    have HWC := Lib.hid hW
    have HPE' : D'.pend.length ≤ 100 := HPE.out
    have HLE' : D'.dur.length = m := HLE.out
    have HVI := Lib.hid fun (W1 : World) (f : Fr [] W W1) => rVisible_c xb sv pv D' W1 (hi.same f) (by omega)
    have HVL : Shut (D'.vis.length = D'.dur.length) := ⟨hi.ok.len⟩
    have HB := Lib.hid hb; have HPM := Lib.hid hpm
    clear hi hW hb hpm
    rcases HB.out with ⟨rfl, rfl⟩ | ⟨jb', vr, rb', vq, L, br, rfl, rfl, hL1, _⟩
    · simp only [pP] at c1 c3
      go_wp2_with fail
      refine reg_mix (Fr [] W) [0, 1, 2, 3, 4, 5, 6, 7, 8, 9, 10, 11, 12, 13, 14, 16, 17, 18, 19, 20, 21, 22, 15, 23, 24, 25, 26, 27, 28, 30, 31, 32, 33, 29, 34, 35, 36, 37, 38, 39, 40, 41, 43, 44, 45, 46, 42, 47, 48, 49, 50, 51, 52, 53] (by kernel_rfl) (by kernel_rfl) (by kernel_rfl) rfl (Fr.drew _ _) ?_
      have FC : Fr [] W W.drew := Fr.drew _ _
      generalize W.drew = WC at FC ⊢
      iterate 2 (refine mix_take1 (v := ?_) rfl rfl rfl rfl (fun w hS => ?_) ?_; rotate_left; (focus (have e1 := hS.cel c1 (by simp); clear hS; go_simp; rfl)); simp only [List.setIfInBounds_toArray, List.set_cons_succ, List.set_cons_zero])
      (refine mix_takeg (v := ?_) rfl rfl rfl rfl rfl rfl (fun w hS => ?_) ?_; rotate_left; (focus (have e1 := hS.cel c1 (by simp); clear hS; go_simp; rfl)); simp only [List.setIfInBounds_toArray, List.set_cons_succ, List.set_cons_zero])
      iterate 2 (refine mix_take1 (v := ?_) rfl rfl rfl rfl (fun w hS => ?_) ?_; rotate_left; (focus (have e1 := hS.cel c1 (by simp); clear hS; go_simp; rfl)); simp only [List.setIfInBounds_toArray, List.set_cons_succ, List.set_cons_zero])
      iterate 6 (refine mix_takeg (v := ?_) rfl rfl rfl rfl rfl rfl (fun w hS => ?_) ?_; rotate_left; (focus (have e1 := hS.cel c1 (by simp); clear hS; go_simp; rfl)); simp only [List.setIfInBounds_toArray, List.set_cons_succ, List.set_cons_zero])
      iterate 14 (refine mix_skipF rfl rfl rfl rfl rfl FC ?_; simp only [List.setIfInBounds_toArray, List.set_cons_succ, List.set_cons_zero])
      iterate 11 (refine mix_skipU rfl rfl rfl rfl rfl FC ?_; simp only [List.setIfInBounds_toArray, List.set_cons_succ, List.set_cons_zero])
      iterate 2 (refine mix_skipF rfl rfl rfl rfl rfl FC ?_; simp only [List.setIfInBounds_toArray, List.set_cons_succ, List.set_cons_zero])
      iterate 12 (refine mix_skipU rfl rfl rfl rfl rfl FC ?_; simp only [List.setIfInBounds_toArray, List.set_cons_succ, List.set_cons_zero])
      (refine mix_skipF rfl rfl rfl rfl rfl FC ?_; simp only [List.setIfInBounds_toArray, List.set_cons_succ, List.set_cons_zero])
      (refine mix_takeg (v := ?_) rfl rfl rfl rfl rfl rfl (fun w hS => ?_) ?_; rotate_left; (focus (have e1 := hS.cel c1 (by simp); clear hS; go_simp; rfl)); simp only [List.setIfInBounds_toArray, List.set_cons_succ, List.set_cons_zero])
      iterate 2 (refine mix_take1 (v := ?_) rfl rfl rfl rfl (fun w hS => ?_) ?_; rotate_left; (focus (have e1 := hS.cel c1 (by simp); clear hS; go_simp; rfl)); simp only [List.setIfInBounds_toArray, List.set_cons_succ, List.set_cons_zero])
      refine mix_end ?_

      go_wp2_with fail
      go_ret
      exact ⟨rfl, HWC.out.js.fr.trans FC⟩
    · have ho : D'.off = false := by
        have := HPM.out
        cases ot with
        | none => simp at this
        | some t => exact HPX.out t rfl
      have HCO := Lib.hid fun (W1 : World) (f : Fr [] W W1) => content10_c db fp D' W1 (HWC.out.js.disk.keep f (by simp)) ho
      have hLm : L.length ≤ 1500 := by have := len_le_enc L; omega
      have hj := HWC.out.rj _ rfl
      have hq := sl_of_row hj.row
      have HQ1 : Shut ((tp0.adds L).recs = L) := ⟨tpL_recs L⟩
      rw [HQ1.out] at hq
      obtain ⟨qa, qc, rfl⟩ := hq.val
      have HQ := Lib.hid hq
      have y1 : W.cell? ⟨rb', 1, none⟩ = some (.slice qa L.length qc) := cell_of_blk hj.blk 1
      simp only [pP] at c1 c3
      have HRo := Lib.hid fun (W1 : World) (f : Fr [] W W1) => room_s (L := L) (HWC.out.js.same f) (List.mem_singleton.2 rfl) (by omega)
      have HRr := Lib.hid fun (W1 : World) (f : Fr [] W W1) => (HWC.out.same f).room hL1
      clear hj hq HPM ho
      go_wp2_with fail
      refine reg_mix (Fr [] W) [0, 1, 2, 3, 4, 5, 6, 7, 8, 9, 10, 11, 12, 13, 14, 16, 17, 18, 19, 20, 21, 22, 15, 23, 24, 25, 26, 27, 28, 30, 31, 32, 33, 29, 34, 35, 36, 37, 38, 39, 40, 41, 43, 44, 45, 46, 42, 47, 48, 49, 50, 51, 52, 53] (by kernel_rfl) (by kernel_rfl) (by kernel_rfl) rfl (Fr.drew _ _) ?_
      have FC : Fr [] W W.drew := Fr.drew _ _
      generalize W.drew = WC at FC ⊢
      iterate 2 (refine mix_take1 (v := ?_) rfl rfl rfl rfl (fun w hS => ?_) ?_; rotate_left; (focus (have e0 := hS.cel c0 (by simp); have e1 := hS.cel c1 (by simp); have e2 := hS.cel c2 (by simp); have e3 := hS.cel c3 (by simp); have z1 := hS.cel y1 (by simp); clear hS; go_simp; rfl)); simp only [List.setIfInBounds_toArray, List.set_cons_succ, List.set_cons_zero])
      (refine mix_takeg (v := ?_) rfl rfl rfl rfl rfl rfl (fun w hS => ?_) ?_; rotate_left; (focus (have e0 := hS.cel c0 (by simp); have e1 := hS.cel c1 (by simp); have e2 := hS.cel c2 (by simp); have e3 := hS.cel c3 (by simp); have z1 := hS.cel y1 (by simp); clear hS; go_simp; rfl)); simp only [List.setIfInBounds_toArray, List.set_cons_succ, List.set_cons_zero])
      iterate 2 (refine mix_take1 (v := ?_) rfl rfl rfl rfl (fun w hS => ?_) ?_; rotate_left; (focus (have e0 := hS.cel c0 (by simp); have e1 := hS.cel c1 (by simp); have e2 := hS.cel c2 (by simp); have e3 := hS.cel c3 (by simp); have z1 := hS.cel y1 (by simp); clear hS; go_simp; rfl)); simp only [List.setIfInBounds_toArray, List.set_cons_succ, List.set_cons_zero])
      iterate 10 (refine mix_takeg (v := ?_) rfl rfl rfl rfl rfl rfl (fun w hS => ?_) ?_; rotate_left; (focus (have e0 := hS.cel c0 (by simp); have e1 := hS.cel c1 (by simp); have e2 := hS.cel c2 (by simp); have e3 := hS.cel c3 (by simp); have z1 := hS.cel y1 (by simp); clear hS; go_simp; rfl)); simp only [List.setIfInBounds_toArray, List.set_cons_succ, List.set_cons_zero])
      iterate 7 (refine mix_takeg (v := ?_) rfl rfl rfl rfl rfl rfl (fun w hS => ?_) ?_; rotate_left; (focus (have e0 := hS.cel c0 (by simp); have e1 := hS.cel c1 (by simp); have e2 := hS.cel c2 (by simp); have e3 := hS.cel c3 (by simp); have z1 := hS.cel y1 (by simp); clear hS; go_simp; rfl)); simp only [List.setIfInBounds_toArray, List.set_cons_succ, List.set_cons_zero])
      refine mix_dog rfl rfl rfl rfl rfl (fun K hK => ?_)
      go_simp
      refine (rec_r (L := L) (HWC.out.js.same FC) (List.mem_singleton.2 rfl) (by omega)).mono ?_
      rintro e w6 ⟨ra, rc, rfl, r6, f6, _⟩
      have FC := FC.trans f6
      have S6 := Lib.hid (sl_of_row r6)
      clear r6 f6
      refine hK _ _ FC ?_
      clear hK K
      try simp only [Act.put, List.setIfInBounds_toArray, List.set_cons_succ, List.set_cons_zero]
      refine mix_dog rfl rfl rfl rfl rfl (fun K hK => ?_)
      go_simp
      refine (same10_c ra qa rc qc L L _ S6.out (HQ.out.same FC)).mono ?_
      rintro e w7 ⟨rfl, f7⟩
      rw [decide_eq_true (rfl : L = L)]
      have FC := FC.trans f7
      clear f7 S6
      refine hK _ _ FC ?_
      clear hK K
      try simp only [Act.put, List.setIfInBounds_toArray, List.set_cons_succ, List.set_cons_zero]
      (refine mix_takeg (v := ?_) rfl rfl rfl rfl rfl rfl (fun w hS => ?_) ?_; rotate_left; (focus (have e0 := hS.cel c0 (by simp); have e1 := hS.cel c1 (by simp); have e2 := hS.cel c2 (by simp); have e3 := hS.cel c3 (by simp); have z1 := hS.cel y1 (by simp); clear hS; go_simp; rfl)); simp only [List.setIfInBounds_toArray, List.set_cons_succ, List.set_cons_zero])
      iterate 4 (refine mix_takeg (v := ?_) rfl rfl rfl rfl rfl rfl (fun w hS => ?_) ?_; rotate_left; (focus (have e0 := hS.cel c0 (by simp); have e1 := hS.cel c1 (by simp); have e2 := hS.cel c2 (by simp); have e3 := hS.cel c3 (by simp); have z1 := hS.cel y1 (by simp); clear hS; go_simp; rfl)); simp only [List.setIfInBounds_toArray, List.set_cons_succ, List.set_cons_zero])
      iterate 4 (refine mix_takeg (v := ?_) rfl rfl rfl rfl rfl rfl (fun w hS => ?_) ?_; rotate_left; (focus (have e0 := hS.cel c0 (by simp); have e1 := hS.cel c1 (by simp); have e2 := hS.cel c2 (by simp); have e3 := hS.cel c3 (by simp); have z1 := hS.cel y1 (by simp); clear hS; go_simp; rfl)); simp only [List.setIfInBounds_toArray, List.set_cons_succ, List.set_cons_zero])
      refine mix_dog rfl rfl rfl rfl rfl (fun K hK => ?_)
      go_simp
      refine (HRo.out _ FC).mono ?_
      rintro e wq ⟨rfl, fq⟩
      have FC := FC.trans fq
      clear fq
      refine hK _ _ FC ?_
      clear hK K
      try simp only [Act.put, List.setIfInBounds_toArray, List.set_cons_succ, List.set_cons_zero]
      refine mix_dog rfl rfl rfl rfl rfl (fun K hK => ?_)
      go_simp
      refine (HRr.out _ FC).mono ?_
      rintro e wq ⟨rfl, fq⟩
      have FC := FC.trans fq
      clear fq
      refine hK _ _ FC ?_
      clear hK K
      try simp only [Act.put, List.setIfInBounds_toArray, List.set_cons_succ, List.set_cons_zero]
      iterate 3 (refine mix_takeg (v := ?_) rfl rfl rfl rfl rfl rfl (fun w hS => ?_) ?_; rotate_left; (focus (have e0 := hS.cel c0 (by simp); have e1 := hS.cel c1 (by simp); have e2 := hS.cel c2 (by simp); have e3 := hS.cel c3 (by simp); have z1 := hS.cel y1 (by simp); clear hS; go_simp; rfl)); simp only [List.setIfInBounds_toArray, List.set_cons_succ, List.set_cons_zero])
      iterate 4 (refine mix_takeg (v := ?_) rfl rfl rfl rfl rfl rfl (fun w hS => ?_) ?_; rotate_left; (focus (have e0 := hS.cel c0 (by simp); have e1 := hS.cel c1 (by simp); have e2 := hS.cel c2 (by simp); have e3 := hS.cel c3 (by simp); have z1 := hS.cel y1 (by simp); clear hS; go_simp; rfl)); simp only [List.setIfInBounds_toArray, List.set_cons_succ, List.set_cons_zero])
      iterate 4 (refine mix_takeg (v := ?_) rfl rfl rfl rfl rfl rfl (fun w hS => ?_) ?_; rotate_left; (focus (have e0 := hS.cel c0 (by simp); have e1 := hS.cel c1 (by simp); have e2 := hS.cel c2 (by simp); have e3 := hS.cel c3 (by simp); have z1 := hS.cel y1 (by simp); clear hS; go_simp; rfl)); simp only [List.setIfInBounds_toArray, List.set_cons_succ, List.set_cons_zero])
      refine mix_dog rfl rfl rfl rfl rfl (fun K hK => ?_)
      go_simp
      refine (HCO.out _ FC).mono ?_
      rintro e w00 ⟨rfl, rfl⟩
      refine hK _ _ FC ?_
      clear hK K
      try simp only [Act.put, List.setIfInBounds_toArray, List.set_cons_succ, List.set_cons_zero]
      refine mix_dog rfl rfl rfl rfl rfl (fun K hK => ?_)
      go_simp
      refine (HVI.out _ FC).mono ?_
      rintro e wv ⟨gv, vc, rfl, xv, fv, _⟩
      have XV := Lib.hid xv
      have FC := FC.trans fv
      clear xv fv
      refine hK _ _ FC ?_
      clear hK K
      try simp only [Act.put, List.setIfInBounds_toArray, List.set_cons_succ, List.set_cons_zero]
      refine mix_dog (o := ⟨some 146, _, _, _, _, _⟩) rfl rfl rfl rfl rfl (fun K hK => ?_)
      refine wp_bytes_row (.tmp 145) 39 9 5 rfl Tryz.underlying39 Tryz.underlying5 Tryz.underlying9 gv 0 D'.dur.length vc D'.dur.length vc D'.vis 5 rfl XV.out (by omega) (hK _ _ FC ?_)
      clear hK K XV
      rw [str_take HVL.out]
      try simp only [Act.put, List.setIfInBounds_toArray, List.set_cons_succ, List.set_cons_zero]
      iterate 3 (refine mix_takeg (v := ?_) rfl rfl rfl rfl rfl rfl (fun w hS => ?_) ?_; rotate_left; (focus (have e0 := hS.cel c0 (by simp); have e1 := hS.cel c1 (by simp); have e2 := hS.cel c2 (by simp); have e3 := hS.cel c3 (by simp); have z1 := hS.cel y1 (by simp); clear hS; go_simp; rfl)); simp only [List.setIfInBounds_toArray, List.set_cons_succ, List.set_cons_zero])
      iterate 2 (refine mix_take1 (v := ?_) rfl rfl rfl rfl (fun w hS => ?_) ?_; rotate_left; (focus (have e0 := hS.cel c0 (by simp); have e1 := hS.cel c1 (by simp); have e2 := hS.cel c2 (by simp); have e3 := hS.cel c3 (by simp); have z1 := hS.cel y1 (by simp); clear hS; go_simp; rfl)); simp only [List.setIfInBounds_toArray, List.set_cons_succ, List.set_cons_zero])
      refine mix_end ?_

      go_wp2_with fail
      go_ret
      exact ⟨rfl, HWC.out.js.fr.trans FC⟩

end Go.Proofs.YtbogljpafpkikaaGreatDoor
