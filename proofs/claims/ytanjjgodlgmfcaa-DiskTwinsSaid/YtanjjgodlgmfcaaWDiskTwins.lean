/-
  The walk of DiskTwins.
-/
import Derived.Test.YtanjjgodlgmfcaaL9e
import Derived.Test.YtanjjgodlgmfcaaReg
namespace Go.Proofs.Ytanjjgodlgmfcaa
open Go.RowKit Go.Lib

/-- A disk beside another one that has changed. -/
theorem Own.beside {w w1 w2 : World} {b : Nat} {fp fx fx' : List Nat} {D : Dk} (h : Own w w1 b fp D) (hu : Upd fx fx' w1 w2) (hd : ∀ k, k ∈ fp → k ∉ fx) (hx : ∀ k, k ∈ fx → w.heap.size ≤ k) : Own w w2 b fp D ∧ ∀ k, k ∈ fp → k ∉ fx' :=
  ⟨⟨h.at_.keep hu.fr hd, h.fr.step hu.fr (fun i hi => .inr (hx i hi)), h.new⟩, fun k hk => hu.notin (hd k hk) (h.at_.lt k hk)⟩

/-- Three disks. -/
structure Tri (w w' : World) (bc bd ba : Nat) (fc fd fa : List Nat) (C D A : Dk) : Prop where
  c : Own w w' bc fc C
  d : Own w w' bd fd D
  a : Own w w' ba fa A
  cd : ∀ k, k ∈ fc → k ∉ fd
  ca : ∀ k, k ∈ fc → k ∉ fa
  da : ∀ k, k ∈ fd → k ∉ fa

theorem Tri.same {w w1 w2 : World} {bc bd ba : Nat} {fc fd fa : List Nat} {C D A : Dk} (h : Tri w w1 bc bd ba fc fd fa C D A) (hf : Fr [] w1 w2) : Tri w w2 bc bd ba fc fd fa C D A := ⟨h.c.same hf, h.d.same hf, h.a.same hf, h.cd, h.ca, h.da⟩
theorem Tri.stepC {w w1 w2 : World} {bc bd ba : Nat} {fc fd fa : List Nat} {C D A C' : Dk} {r : Value} {e : Ending} (h : Tri w w1 bc bd ba fc fd fa C D A) (k : DkStep bc fc r C' w1 e w2) : e = .returned r ∧ ∃ fc', Tri w w2 bc bd ba fc' fd fa C' D A ∧ Upd fc fc' w1 w2 := by
  obtain ⟨he, fc', h1, h2⟩ := h.c.stepU k
  obtain ⟨d1, d2⟩ := h.d.beside h2 (fun q hq hm => h.cd q hm hq) h.c.new
  obtain ⟨a1, a2⟩ := h.a.beside h2 (fun q hq hm => h.ca q hm hq) h.c.new
  exact ⟨he, fc', ⟨h1, d1, a1, fun q hq hm => d2 q hm hq, fun q hq hm => a2 q hm hq, h.da⟩, h2⟩
theorem Tri.stepD {w w1 w2 : World} {bc bd ba : Nat} {fc fd fa : List Nat} {C D A D' : Dk} {r : Value} {e : Ending} (h : Tri w w1 bc bd ba fc fd fa C D A) (k : DkStep bd fd r D' w1 e w2) : e = .returned r ∧ ∃ fd', Tri w w2 bc bd ba fc fd' fa C D' A ∧ Upd fd fd' w1 w2 := by
  obtain ⟨he, fd', h1, h2⟩ := h.d.stepU k
  obtain ⟨c1, c2⟩ := h.c.beside h2 h.cd h.d.new
  obtain ⟨a1, a2⟩ := h.a.beside h2 (fun q hq hm => h.da q hm hq) h.d.new
  exact ⟨he, fd', ⟨c1, h1, a1, c2, h.ca, fun q hq hm => a2 q hm hq⟩, h2⟩
theorem Tri.stepA {w w1 w2 : World} {bc bd ba : Nat} {fc fd fa : List Nat} {C D A A' : Dk} {r : Value} {e : Ending} (h : Tri w w1 bc bd ba fc fd fa C D A) (k : DkStep ba fa r A' w1 e w2) : e = .returned r ∧ ∃ fa', Tri w w2 bc bd ba fc fd fa' C D A' ∧ Upd fa fa' w1 w2 := by
  obtain ⟨he, fa', h1, h2⟩ := h.a.stepU k
  obtain ⟨c1, c2⟩ := h.c.beside h2 h.ca h.a.new
  obtain ⟨d1, d2⟩ := h.d.beside h2 h.da h.a.new
  exact ⟨he, fa', ⟨c1, d1, h1, h.cd, c2, d2⟩, h2⟩
theorem Tri.young {w w1 : World} {bc bd ba : Nat} {fc fd fa : List Nat} {C D A : Dk} (h : Tri w w1 bc bd ba fc fd fa C D A) {k : Nat} (hk : w1.heap.size ≤ k) : k ∉ fc ∧ k ∉ fd ∧ k ∉ fa := ⟨h.c.young hk, h.d.young hk, h.a.young hk⟩

theorem tri_new {w w1 w2 w3 w4 : World} {bc bd ba : Nat} {fc fd fa : List Nat} {C D A : Dk} (f1 : Fr [] w w1) (hc : Own w1 w2 bc fc C) (hd : Own w2 w3 bd fd D) (ha : Own w3 w4 ba fa A) : Tri w w4 bc bd ba fc fd fa C D A := by
  have l1 := hc.at_.lt
  have l2 := hd.at_.lt
  have s1 := hc.fr.size
  have s2 := hd.fr.size
  exact ⟨((hc.same hd.fr).same ha.fr).older f1, (hd.same ha.fr).older (f1.trans hc.fr), ha.older ((f1.trans hc.fr).trans hd.fr), fun k hk hm => by have := l1 k hk; have := hd.new k hm; omega, fun k hk hm => by have := l1 k hk; have := ha.new k hm; omega, fun k hk hm => by have := l2 k hk; have := ha.new k hm; omega⟩

/-- What both disks of the law are like. -/
structure Dk.Mild (D : Dk) (n k : Nat) : Prop where
  up : D.up
  dur : D.dur.length = n
  vis : D.vis.length = n
  pend : D.pend.length ≤ k
theorem mild_new (n : Nat) : (Dk.new n).Mild n 0 := ⟨up_new n, by simp [Dk.new], by simp [Dk.new], by simp [Dk.new]⟩
theorem mild_put {D : Dk} {n k : Nat} (h : D.Mild n k) {o : Nat} {s : ByteArray} (hs : o + s.size ≤ n) : (D.put o s).Mild n (k + 1) :=
  ⟨put_up h.up o s, h.dur, by simp only [Dk.put]; rw [paste_length _ _ _ (by rw [h.vis]; simpa using hs)]; exact h.vis, by simp [Dk.put]; exact h.pend⟩
theorem mild_sync {D : Dk} {n k : Nat} (h : D.Mild n k) : D.sync.Mild n k := ⟨(sync_up h.up).2.2, h.vis, h.vis, by simp [Dk.sync]⟩
theorem mild_crash {D : Dk} {n k : Nat} (h : D.Mild n k) : (⟨false, 0, D.dur, D.dur, []⟩ : Dk).Mild n k := ⟨⟨rfl, rfl⟩, h.dur, h.dur, by simp⟩
theorem Dk.Mild.more {D : Dk} {n k : Nat} (h : D.Mild n k) : D.Mild n (k + 1) := ⟨h.up, h.dur, h.vis, by have := h.pend; omega⟩

set_option maxRecDepth 1000000 in
set_option maxHeartbeats 20000000 in
theorem diskTwins_c (size : Int) (a : Option Addr) (cap : Nat) (l : List Wp) (w : World) (h1 : -9223372036854775808 ≤ size) (h2 : size ≤ 9223372036854775807) (hr : RowW w a cap l) :
    Calls Try.prog 11 #[.int .i64 size, .slice a l.length cap] w fun e w' => e = .returned (.bool true) ∧ Below w.heap.size w w' := by
  have hlm : l.length ≤ 9223372036854775807 := Nat.le_trans hr.le hr.max
  have cS := Lib.hid (sane_c w)
  have hp := pickI_bound size 100 (by omega)
  have cP := Lib.hid (fun w => pick_any size 100 w h1 h2 (by omega) (by omega))
  generalize pickI size 100 = sz at *
  obtain ⟨m, rfl⟩ := Int.eq_ofNat_of_zero_le hp.1
  have hn1 : m + 1 ≤ 100 := by omega
  have cN := Lib.hid (fun w => new_own (m + 1) w (by omega) (by omega))
  have en : ((m + 1 : Nat) : Int) = 1 + (m : Int) := by omega
  rw [en] at cN
  have HR := Lib.hid hr; clear hr
  have Hen := Lib.hid en; clear en
  go_enter Try.func11, Try.ntmps11
  go_wp2_with fail
  refine cS.out.mono ?_
  rintro e w1 ⟨rfl, f1⟩
  go_wp2_with fail
  refine (cP.out _).mono ?_
  rintro e w1b ⟨rfl, rfl⟩
  go_wp2_with fail
  refine (cN.out _).mono ?_
  rintro e w2 ⟨bc, fc, rfl, o1⟩
  have O1 := Lib.hid o1; clear o1
  go_wp2_with fail
  refine (cN.out _).mono ?_
  rintro e w3 ⟨bd, fd, rfl, o2⟩
  have O2 := Lib.hid o2; clear o2
  go_wp2_with fail
  refine (cN.out _).mono ?_
  rintro e w4 ⟨ba, fa, rfl, o3⟩
  have HT := Lib.hid (tri_new f1 O1.out O2.out o3)
  clear o3 O1 O2 f1
  go_wp2
  go_loopw [12] (fun i wr => ∃ (k : Nat) (fc fd fa : List Nat) (C D : Dk), k ≤ l.length ∧ k ≤ 30 ∧ i = .int .i64 k ∧ Hid (Tri w wr bc bd ba fc fd fa C D C) ∧ Hid (C.Mild (m + 1) k) ∧ Hid (D.Mild (m + 1) k)) (fun i _ => l.length - (intOf i).toNat)
  case atStart => exact ⟨0, fc, fd, fa, _, _, Nat.zero_le _, by omega, rfl, HT, Lib.hid (mild_new _), Lib.hid (mild_new _)⟩
  case round =>
    obtain ⟨k, fc, fd, fa, C, D, hk, hk30, rfl, HO, HC, HD⟩ := hrel
    by_cases hlt : k < l.length ∧ k < 30
    · obtain ⟨hlt, h30⟩ := hlt
      obtain ⟨b', off', ha, hb', hcs⟩ := HR.out.cells (by omega)
      subst ha
      have hbel := HO.out.c.fr.below
      obtain ⟨q0, q1, q2⟩ := hcs k hlt
      have e0 := (hbel.cell (p := ⟨b', off' + k * 3, none⟩) hb').trans q0
      have e1 := (hbel.cell (p := ⟨b', off' + k * 3 + 1, none⟩) hb').trans q1
      have e2 := (hbel.cell (p := ⟨b', off' + k * 3 + 2, none⟩) hb').trans q2
      have hok := HR.out.ok _ (List.getElem_mem hlt)
      clear hcs q0 q1 q2 hbel
      generalize l[k] = x at *
      have cF := Lib.hid (fun w => fits_c x (m + 1) w hok (by omega))
      rw [Hen.out] at cF
      have hft := fitW_fits x (m + 1)
      generalize (fitW x (m + 1)).1 = o at *
      generalize (fitW x (m + 1)).2 = s at *
      go_wp2_with (first | (go_at_call 26; refine (cF.out _).mono ?_; rintro e w5 ⟨rfl, f5⟩; have F5 := Lib.hid f5; clear f5))
      all_goals generalize x.sync = y at *
      all_goals have HO5 := Lib.hid (HO.out.same (F5.out.trans (Fr.alloc _ _ (.cells #[.int .i64 o, .string s, .bool y] 53))))
      all_goals have hyo := (HO.out.same F5.out).young (Nat.le_refl _)
      all_goals have hnv := Lib.hid (heap_alloc_new w5 (.cells #[.int .i64 o, .string s, .bool y] 53))
      all_goals have hss : s.size ≤ 100 := by omega
      · have cW := (write_dk bd fd D o s _ HO5.out.d.at_ (by omega) (by omega) (by omega) (by have := HD.out.pend; omega)).mono fun _ _ k => HO5.out.stepD k
        have hwu := write_up HD.out.up (show o + s.size ≤ D.dur.length by rw [HD.out.dur]; exact hft)
        rw [hwu.1, hwu.2] at cW
        refine cW.mono ?_
        rintro e w6 ⟨rfl, fd6, o6, f6⟩
        have O6 := Lib.hid o6
        have V6 := Lib.hid (f6.fr.keep hnv.out hyo.2.1)
        have t0 : w6.cell? ⟨w5.heap.size, 0, none⟩ = some (.int .i64 o) := cell_of_blk V6.out 0
        have t2 : w6.cell? ⟨w5.heap.size, 2, none⟩ = some (.bool y) := cell_of_blk V6.out 2
        have hny : w5.heap.size ∉ fd6 := f6.notin hyo.2.1 (by simp)
        have U6 := Lib.hid (mild_put HD.out hft)
        clear o6 f6 cW hwu hnv
        generalize D.put o s = D6 at *
        have cCr : Hid (∀ (w6 : World) (fd6 : List Nat) (D6 : Dk), Tri w w6 bc bd ba fc fd6 fa C D6 C → Calls Try.prog 25 #[.pointer (some ⟨bd, 0, none⟩), .slice none 0 0, .int .i64 1] w6 fun e w7 => e = .returned (.int .i64 0) ∧ ∃ fd7, Tri w w7 bc bd ba fc fd7 fa C ⟨false, 0, D6.dur, D6.dur, []⟩ C) := Lib.hid fun w6 fd6 D6 hT => by
          have h := (crash_dk bd fd6 (.slice none 0 0) D6 [] 1 w6 hT.d.at_ (.inl ⟨rfl, none, 0, rfl⟩) (by simp) (by simp) (by omega) (by omega)).mono fun _ _ k => hT.stepD k
          rw [crash_none] at h
          exact h.mono fun _ _ ⟨he, fd7, t7, _⟩ => ⟨he, fd7, t7⟩
        cases h73 : ((o : Int) % 7 == 3)
        all_goals cases y
        · go_wp2_with fail
          go_roundw
          case rel => exact ⟨k + 1, fc, fd6, fa, C, D6, by omega, by omega, by go_num, O6, Lib.hid HC.out.more, U6⟩
          case measure => simp [intOf]; omega
        · have cY := (sync_dk bd fd6 D6 w6 O6.out.d.at_).mono fun _ _ k => O6.out.stepD k
          have hsu := sync_up U6.out.up
          rw [hsu.1, hsu.2.1] at cY
          have CY := Lib.hid cY; clear cY hsu
          go_wp2_with (first | (go_at_call 23; refine CY.out.mono ?_; rintro e w7 ⟨rfl, fd7, o7, f7⟩; have O7 := Lib.hid o7; have t3 : w7.cell? ⟨w5.heap.size, 0, none⟩ = some (.int .i64 o) := cell_of_blk (f7.fr.keep V6.out hny) 0; clear o7 f7))
          go_roundw
          case rel => exact ⟨k + 1, fc, fd7, fa, C, D6.sync, by omega, by omega, by go_num, O7, Lib.hid HC.out.more, Lib.hid (mild_sync U6.out)⟩
          case measure => simp [intOf]; omega
        · go_wp2_with (first | (go_at_call 25; refine (cCr.out _ _ _ O6.out).mono ?_; rintro e w8 ⟨rfl, fd8, o8⟩; have O8 := Lib.hid o8; clear o8))
          go_roundw
          case rel => exact ⟨k + 1, fc, fd8, fa, C, _, by omega, by omega, by go_num, O8, Lib.hid HC.out.more, Lib.hid (mild_crash U6.out)⟩
          case measure => simp [intOf]; omega
        · have cY := (sync_dk bd fd6 D6 w6 O6.out.d.at_).mono fun _ _ k => O6.out.stepD k
          have hsu := sync_up U6.out.up
          rw [hsu.1, hsu.2.1] at cY
          have CY := Lib.hid cY; clear cY hsu
          go_wp2_with (first | (go_at_call 23; refine CY.out.mono ?_; rintro e w7 ⟨rfl, fd7, o7, f7⟩; have O7 := Lib.hid o7; have t3 : w7.cell? ⟨w5.heap.size, 0, none⟩ = some (.int .i64 o) := cell_of_blk (f7.fr.keep V6.out hny) 0; clear o7 f7) | (go_at_call 25; refine (cCr.out _ _ _ O7.out).mono ?_; rintro e w8 ⟨rfl, fd8, o8⟩; have O8 := Lib.hid o8; clear o8))
          go_roundw
          case rel => exact ⟨k + 1, fc, fd8, fa, C, _, by omega, by omega, by go_num, O8, Lib.hid HC.out.more, Lib.hid (mild_crash (mild_sync U6.out))⟩
          case measure => simp [intOf]; omega
      · have hwu := write_up HC.out.up (show o + s.size ≤ C.dur.length by rw [HC.out.dur]; exact hft)
        have HWU := Lib.hid hwu; clear hwu
        have U6 := Lib.hid (mild_put HC.out hft)
        have hpl := HC.out.pend
        have cW := (write_dk bc fc C o s _ (HO5.out.same (Fr.drew _ _)).c.at_ (by omega) (by omega) (by omega) (by omega)).mono fun _ _ k => (HO5.out.same (Fr.drew _ _)).stepC k
        rw [HWU.out.1, HWU.out.2] at cW
        have CWc := Lib.hid cW; clear cW
        have CWa : Hid (∀ (W : World) (fc6 : List Nat), Tri w W bc bd ba fc6 fd fa (C.put o s) D C → Calls Try.prog 21 #[.pointer (some ⟨ba, 0, none⟩), .int .i64 o, .string s] W fun e w7 => e = .returned (.int .i64 0) ∧ ∃ fa7, Tri w w7 bc bd ba fc6 fd fa7 (C.put o s) D (C.put o s) ∧ Upd fa fa7 W w7) := Lib.hid fun W fc6 hT => by
          have h := (write_dk ba fa C o s W hT.a.at_ (by omega) (by omega) (by omega) (by omega)).mono fun _ _ k => hT.stepA k
          rw [HWU.out.1, HWU.out.2] at h
          exact h
        have hsu := sync_up U6.out.up
        have CYc : Hid (∀ (W : World) (fc6 fa7 : List Nat), Tri w W bc bd ba fc6 fd fa7 (C.put o s) D (C.put o s) → Calls Try.prog 23 #[.pointer (some ⟨bc, 0, none⟩)] W fun e w7 => e = .returned (.int .i64 0) ∧ ∃ fc8, Tri w w7 bc bd ba fc8 fd fa7 (C.put o s).sync D (C.put o s) ∧ Upd fc6 fc8 W w7) := Lib.hid fun W fc6 fa7 hT => by
          have h := (sync_dk bc fc6 (C.put o s) W hT.c.at_).mono fun _ _ k => hT.stepC k
          rw [hsu.1, hsu.2.1] at h
          exact h
        have CYa : Hid (∀ (W : World) (fc6 fa7 : List Nat), Tri w W bc bd ba fc6 fd fa7 (C.put o s).sync D (C.put o s) → Calls Try.prog 23 #[.pointer (some ⟨ba, 0, none⟩)] W fun e w7 => e = .returned (.int .i64 0) ∧ ∃ fa8, Tri w w7 bc bd ba fc6 fd fa8 (C.put o s).sync D (C.put o s).sync ∧ Upd fa7 fa8 W w7) := Lib.hid fun W fc6 fa7 hT => by
          have h := (sync_dk ba fa7 (C.put o s) W hT.a.at_).mono fun _ _ k => hT.stepA k
          rw [hsu.1, hsu.2.1] at h
          exact h
        clear hsu hpl HWU
        generalize C.put o s = C6 at *
        have cellsOf : Hid (∀ W : World, W.heap[w5.heap.size]? = some (.cells #[.int .i64 o, .string s, .bool y] 53 (0, 0)) → (W.cell? ⟨w5.heap.size, 0, none⟩ = some (.int .i64 o) ∧ W.cell? ⟨w5.heap.size, 1, none⟩ = some (.string s) ∧ W.cell? ⟨w5.heap.size, 2, none⟩ = some (.bool y))) := Lib.hid fun W h => ⟨cell_of_blk h 0, cell_of_blk h 1, cell_of_blk h 2⟩
        have S5 := cellsOf.out _ hnv.out
        cases y with
        | false =>
          refine reg_mix (fun W' : World => W'.cell? ⟨w5.heap.size, 0, none⟩ = some (.int .i64 o) ∧ W'.cell? ⟨w5.heap.size, 1, none⟩ = some (.string s) ∧ W'.cell? ⟨w5.heap.size, 2, none⟩ = some (.bool false)) [0, 1, 2, 3, 4, 6, 7, 8, 9, 10, 5, 11, 12, 13, 14, 15, 16, 17, 19, 18, 20, 21, 22, 23] (by kernel_rfl) (by kernel_rfl) (by kernel_rfl) rfl S5 ?_
          iterate 10 (refine mix_take1 (v := ?_) rfl rfl rfl rfl (fun w hS => ?_) ?_; rotate_left; (focus (obtain ⟨s0, s1, s2⟩ := hS; go_simp; rfl)); simp only [List.setIfInBounds_toArray, List.set_cons_succ, List.set_cons_zero])
          refine mix_do rfl rfl rfl (fun K hK => ?_)
          go_simp
          refine CWc.out.mono ?_
          rintro e w6 ⟨rfl, fc6, o6, f6⟩
          have O6 := Lib.hid o6
          have V6 := Lib.hid (f6.fr.keep hnv.out hyo.1)
          have S6 := cellsOf.out _ V6.out
          clear o6 f6 CWc
          refine hK _ _ S6 ?_
          clear hK K
          try simp only [Act.put, List.setIfInBounds_toArray, List.set_cons_succ, List.set_cons_zero]
          refine mix_do rfl rfl rfl (fun K hK => ?_)
          go_simp
          refine (CWa.out _ _ O6.out).mono ?_
          rintro e w7 ⟨rfl, fa7, o7, f7⟩
          have O7 := Lib.hid o7
          have V7 := Lib.hid (f7.fr.keep V6.out hyo.2.2)
          have S7 := cellsOf.out _ V7.out
          clear o7 f7 CWa
          refine hK _ _ S7 ?_
          clear hK K
          try simp only [Act.put, List.setIfInBounds_toArray, List.set_cons_succ, List.set_cons_zero]
          iterate 2 (refine mix_take1 (v := ?_) rfl rfl rfl rfl (fun w hS => ?_) ?_; rotate_left; (focus (obtain ⟨s0, s1, s2⟩ := hS; go_simp; rfl)); simp only [List.setIfInBounds_toArray, List.set_cons_succ, List.set_cons_zero])
          iterate 3 (refine mix_takeg (v := ?_) rfl rfl rfl rfl rfl rfl (fun w hS => ?_) ?_; rotate_left; (focus (obtain ⟨s0, s1, s2⟩ := hS; go_simp; rfl)); simp only [List.setIfInBounds_toArray, List.set_cons_succ, List.set_cons_zero])
          iterate 5 (refine mix_skipT rfl rfl rfl rfl rfl S7 ?_; simp only [List.setIfInBounds_toArray, List.set_cons_succ, List.set_cons_zero])
          refine mix_takeg (v := ?_) rfl rfl rfl rfl rfl rfl (fun w hS => ?_) ?_
          rotate_left
          (focus (obtain ⟨s0, s1, s2⟩ := hS; go_simp; rfl))
          simp only [List.setIfInBounds_toArray, List.set_cons_succ, List.set_cons_zero]
          refine mix_take1 (v := ?_) rfl rfl rfl rfl (fun w hS => ?_) ?_
          rotate_left
          (focus (obtain ⟨s0, s1, s2⟩ := hS; go_simp; rfl))
          simp only [List.setIfInBounds_toArray, List.set_cons_succ, List.set_cons_zero]
          refine mix_end ?_
          go_wp2
          go_roundw
          case rel => exact ⟨k + 1, fc6, fd, fa7, C6, D, by omega, by omega, by go_num, O7, U6, Lib.hid HD.out.more⟩
          case measure => simp [intOf]; omega
        | true =>
          have hs5 : (w5.alloc (.cells #[.int .i64 o, .string s, .bool true] 53)).drew.cell? ⟨w5.heap.size, 0, none⟩ = some (.int .i64 o) ∧ (w5.alloc (.cells #[.int .i64 o, .string s, .bool true] 53)).drew.cell? ⟨w5.heap.size, 1, none⟩ = some (.string s) ∧ (w5.alloc (.cells #[.int .i64 o, .string s, .bool true] 53)).drew.cell? ⟨w5.heap.size, 2, none⟩ = some (.bool true) := S5
          have Hyo := Lib.hid hyo
          go_region_held3 (fun W' : World => W'.cell? ⟨w5.heap.size, 0, none⟩ = some (.int .i64 o) ∧ W'.cell? ⟨w5.heap.size, 1, none⟩ = some (.string s) ∧ W'.cell? ⟨w5.heap.size, 2, none⟩ = some (.bool true)) (first | exact hs5 | assumption) (first | (go_at_call 21; refine (CWa.out _ _ O6.out).mono ?_; rintro e w7 ⟨rfl, fa7, o7, f7⟩; have O7 := Lib.hid o7; have V7 := Lib.hid (f7.fr.keep V6.out Hyo.out.2.2); have S7 := cellsOf.out _ V7.out; have hn8 : w5.heap.size ∉ fa7 := f7.notin Hyo.out.2.2 (by have := blk_lt V6.out; omega); clear o7 f7) | (go_at_call 21; refine CWc.out.mono ?_; rintro e w6 ⟨rfl, fc6, o6, f6⟩; have O6 := Lib.hid o6; have V6 := Lib.hid (f6.fr.keep hnv.out Hyo.out.1); have S6 := cellsOf.out _ V6.out; have hn7 : w5.heap.size ∉ fc6 := f6.notin Hyo.out.1 (by simp); clear o6 f6) | (go_at_call 23; refine (CYa.out _ _ _ O8.out).mono ?_; rintro e w9 ⟨rfl, fa9, o9, f9⟩; have O9 := Lib.hid o9; have V9 := Lib.hid (f9.fr.keep V8.out hn8); have S9 := cellsOf.out _ V9.out; clear o9 f9) | (go_at_call 23; refine (CYc.out _ _ _ O7.out).mono ?_; rintro e w8 ⟨rfl, fc8, o8, f8⟩; have O8 := Lib.hid o8; have V8 := Lib.hid (f8.fr.keep V7.out hn7); have S8 := cellsOf.out _ V8.out; clear o8 f8))
          all_goals
            go_wp2
            go_roundw
            case rel => exact ⟨k + 1, fc8, fd, fa9, C6.sync, D, by omega, by omega, by go_num, O9, Lib.hid (mild_sync U6.out), Lib.hid HD.out.more⟩
            case measure => simp [intOf]; omega
    · have hru := read_up HC.out.up (HC.out.vis.trans HC.out.dur.symm)
      rw [HC.out.dur, Hen.out] at hru
      have HRU := Lib.hid hru; clear hru
      have cRc := read_own HO.out.c 0 (1 + m) (by omega) (by omega) (by omega) (by omega)
      rw [HRU.out.1, HRU.out.2] at cRc
      have CRc := Lib.hid cRc; clear cRc
      have cRa := read_own HO.out.a 0 (1 + m) (by omega) (by omega) (by omega) (by omega)
      rw [HRU.out.1, HRU.out.2] at cRa
      have CRa := Lib.hid cRa; clear cRa
      have CPc := Lib.hid (pending_own HO.out.c)
      have CPa := Lib.hid (pending_own HO.out.a)
      have hpl := HC.out.pend
      have HBel := Lib.hid HO.out.c.fr.below
      have hkk : ¬ (k < l.length) ∨ (k < l.length ∧ 30 ≤ k) := by omega
      clear hlt
      generalize C.vis = cv at *
      rcases hkk with hkk | ⟨hkk, hkk2⟩
      all_goals
        go_wp2_with fail
        refine CRc.out.mono ?_
        rintro e w6 ⟨rfl, rfl⟩
        go_wp2_with fail
        refine CRa.out.mono ?_
        rintro e w6 ⟨rfl, rfl⟩
        go_wp2_with fail
        refine CPc.out.mono ?_
        rintro e w6 ⟨rfl, rfl⟩
        go_wp2_with fail
        refine CPa.out.mono ?_
        rintro e w6 ⟨rfl, rfl⟩
        go_wp2_with fail
        go_ret
        exact ⟨rfl, HBel.out⟩

set_option maxRecDepth 100000 in
theorem walk_DiskTwins {H : Type} {enc : TypeId × Value → H} {base : Nat} (W : World) {v0 v1 : Value} {d0 d1 : DataW H} {p0 p1 : List MemPlace}
    (k0 : Value.okWide Try.prog W .any base 3 v0) (h0 : DataW.Trod enc Try.prog W 0 (fun _ => true) true 3 v0 d0 p0)
    (k1 : Value.okWide Try.prog W .any base 51 v1) (h1 : DataW.Trod enc Try.prog W 0 (fun _ => true) true 51 v1 d1 p1) :
    Calls Try.prog 11 #[v0, v1] W fun e W' => e = .returned (.bool true) ∧ Below W.heap.size W W' := by
  obtain ⟨a0, rfl, l0, u0⟩ := open_i64 Try.underlying3 k0 h0
  obtain ⟨a, cap, l, rfl, hr⟩ := rowW_of_open k1 h1
  exact diskTwins_c a0 a cap l W l0 u0 hr

end Go.Proofs.Ytanjjgodlgmfcaa
