/-
  attest: the hands of an attestation of one hand, whose row the loop's body may write.
-/
import Derived.Test.YtahfpadaoobkfaaGreatDoorQS23
import Derived.Test.YtahfpadaoobkfaaGreatDoorQAtWi
import Derived.Test.YtahfpadaoobkfaaGreatDoorShelf
import Derived.Shelf.Strings.Repeat
import Derived.Test.YtahfpadaoobkfaaGreatDoorQS31
import Derived.Test.YtahfpadaoobkfaaGreatDoorQAtZ
namespace Go.Proofs.YtahfpadaoobkfaaGreatDoor
open Go.RowKit Go.Shelf Go.Lib

attribute [local go_sem] Oper.semAt_some

/-- The iterator over one hand: behind its yield the row is read no more. -/
theorem hands_seq1 (d : Dl) (v : Value) (h : Hd) (bx bq : Nat) (W0 : World) (hd : dlB d = true) (hcl : 0 ≤ h.car ∧ h.car ≤ 7 ∧ 0 ≤ h.lev ∧ h.lev ≤ 1000000 ∧ h.sig.size ≤ 1000)
    (hbx : W0.heap[bx]? = some (.cells #[.int .i64 d.caller, .int .i64 d.called, .int .i64 d.at_, .int .i64 d.serial, v] 44 (0, 0))) (hne : bx ≠ bq) (hrow : W0.ownsRow 0 60 3 v 1 (hdC h)) (hbq : bq < W0.heap.size) :
    SeqStopsK Fence.wide 2 Tryz.prog 80 #[.pointer (some ⟨bx, 0, none⟩)] (fun m : HdO => hdE m.1) (KpC bq) (fun ys => ys.map (·.1) = hdsI d 0 ByteArray.empty [h]) (fun pre => pre.map (·.1) <+: hdsI d 0 ByteArray.empty [h]) (hdsI d 0 ByteArray.empty [h]).length W0 := by
  intro l J Jx W hW hJ hJx hY h0
  have hcl' : ∀ x, x ∈ [h] → 0 ≤ x.car ∧ x.car ≤ 7 ∧ 0 ≤ x.lev ∧ x.lev ≤ 1000000 ∧ x.sig.size ≤ 1000 := fun x hx => by
    rw [List.mem_singleton] at hx; subst hx; exact hcl
  have hok := hdsI_good hd [h] 0 ByteArray.empty hcl' (by simp) (by decide)
  have hfr : Fr [] W0 W := Fr.of_below [] hW
  have hrow' : W0.ownsRow 0 60 3 v [h].length ([h].flatMap hdC) := by simpa using hrow
  have hform : ∃ a cap, v = .slice a 1 cap := (sl_of_row hrow').val
  refine (hands1_in 2 l d v [h] bx bq hd (fun x hx => by have := hcl' x hx; omega) (by simp) (fun pre W => ((∃ pre' : List HdO, pre'.map (·.1) = pre ∧ J pre' W) ∧ KpC bq W0 W) ∧ (pre = [] → Fr [] W0 W)) (fun pre W => ∃ pre' : List HdO, pre'.map (·.1) = pre ∧ Jx pre' W) (fun pre W1 h => h.1.2.cel hbx hne) ?_ ?_ ?_ W (Nat.lt_of_lt_of_le hbq hfr.size) ⟨⟨⟨[], rfl, h0⟩, KpC.of (hfr.mono (by simp))⟩, fun _ => hfr⟩).mono ?_
  · rintro pre W1 ⟨_, hk⟩
    obtain ⟨a, cap, rfl⟩ := hform
    refine ⟨a, cap, rfl, fun hp => ?_⟩
    have hp0 : pre = [] := List.eq_nil_of_length_eq_zero (by have hp' : pre.length < 1 := hp; omega)
    subst hp0
    obtain ⟨b, off, cap', hv, hc⟩ := hdRow_cells (l := [h]) (sl_of_row (row_fr hrow' (hk rfl) (by simp))) 0 (by simp)
    cases hv
    exact ⟨b, off, rfl, hc⟩
  · rintro pre m W2 ⟨⟨⟨pre', rfl, hj⟩, hk⟩, _⟩ hp
    have hm : m ∈ hdsI d 0 ByteArray.empty [h] := hp.subset (by simp)
    have hl : pre'.length < (hdsI d 0 ByteArray.empty [h]).length := by
      have := hp.length_le
      rw [List.length_append, List.length_map] at this
      simp only [List.length_cons, List.length_nil] at this
      omega
    obtain ⟨fn, tmps, assign, body, hy, hR⟩ := hY pre' ⟨m, hok m hm⟩ W2 hj hl
    refine ⟨fn, tmps, assign, body, hy, hR.mono ?_⟩
    rintro e W3 (⟨he, hj3, hk3⟩ | ⟨he, hj3⟩)
    · exact .inl ⟨he, ⟨⟨⟨_, by rw [List.map_append]; rfl, hj3⟩, hk.trans hk3⟩, fun h0 => by simp at h0⟩, hk3⟩
    · exact .inr ⟨he, ⟨_, by rw [List.map_append]; rfl, hj3⟩⟩
  · rintro s A B ⟨⟨⟨pre', rfl, hj⟩, hk⟩, h0⟩ hf
    exact ⟨⟨⟨pre', rfl, hJ _ A B none hj hf.grownNoneT (fun r e => by cases e)⟩, hk.trans (KpC.of (hf.mono (by simp)))⟩, fun hp => (h0 hp).trans hf⟩
  · rintro e W' ⟨he, ⟨⟨⟨pre', hp, hj⟩, _⟩, _⟩ | ⟨pre, hpre, pre', rfl, hj⟩⟩
    · exact ⟨he, .inl ⟨pre', hp, hj⟩⟩
    · exact ⟨he, .inr ⟨pre', hpre, hj⟩⟩

end Go.Proofs.YtahfpadaoobkfaaGreatDoor

/-
  strings.Repeat of the byte 0, 32 times.
-/
namespace Go.Proofs.YtahfpadaoobkfaaGreatDoor
open Go.RowKit Go.Shelf Go.Lib

theorem ext105 : Builder.Extra Tryz.prog Tryz.lays105_ren := {
  sizeBuilder := by kernel_rfl
  liesBuilder := by kernel_rfl
  t5 := Tryz.underlying5
  a5 := Tryz.isAgg5
  z5 := Tryz.sizeOf5
  v5 := Tryz.zeroValue5
  infoByte := by kernel_rfl
  cellsByte := by kernel_rfl
  sizeByte := by kernel_rfl
  neB5 := by decide }

theorem repeat0_c (w : World) : Calls Tryz.prog 92 #[.string ⟨#[0]⟩, .int .i64 32] w fun e w' => e = .returned (.string zs32) ∧ Fr [] w w' := by
  refine (Any.strings_Repeat_main Tryz.lays105 ext105 ⟨#[0]⟩ 32 w (by omega) (by omega) (by decide) (by decide)).mono ?_
  rintro e w' ⟨rfl, hb⟩
  exact ⟨by rfl, Fr.of_below [] hb⟩

end Go.Proofs.YtahfpadaoobkfaaGreatDoor

/-
  attest: add, for an attestation without hands.
-/
namespace Go.Proofs.YtahfpadaoobkfaaGreatDoor
open Go.RowKit Go.Shelf Go.Lib

attribute [local go_sem] Oper.semAt_some

set_option maxRecDepth 100000 in
theorem clone0_c (w : World) : Calls Tryz.prog 93 #[.slice none 0 0] w fun e w' => e = .returned (.slice none 0 0) ∧ w = w' := by
  go_enter Tryz.func93, Tryz.ntmps93
  go_wp2_with fail
  unfold Oper.upon
  go_simp
  generalize hx : Sem.run Tryz.prog (binOp BinOp.eql _ _ _) w = x
  have hy : x = .ok (.bool true) w := by rw [← hx]; rfl
  subst hy
  clear hx
  go_simp
  go_wp2_with fail
  all_goals (go_ret; exact ⟨rfl, rfl⟩)

/-- What the second region's operations have made. -/
def AdP (N : Nat) (d : Dl) (c lev : Int) (i : Nat) (v : Value) (W : World) : Prop := match i with
  | 4 => v = .slice none 0 0
  | 6 => ∃ g, v = .slice (some ⟨g, 0, none⟩) 1 1 ∧ W.heap[g]? = some (.cells #[.int .i64 c, .int .i64 lev, .string zs32] 60 (0, 0)) ∧ N ≤ g
  | 7 => W.ownsRow 0 60 3 v 1 (hdC (nuH c lev)) ∧ ∀ g, v.ownBlock = some g → N ≤ g
  | 8 => ∃ u, v = atV d u ∧ W.ownsRow 0 60 3 u 1 (hdC (nuH c lev)) ∧ ∀ g, u.ownBlock = some g → N ≤ g
  | 9 => ∃ g, v = .pointer (some ⟨g, 0, none⟩) ∧ W.heap[g]? = some (.cells #[.int .i64 0, .int .i64 0, .int .i64 0, .int .i64 0, .slice none 0 0] 44 (0, 0)) ∧ N ≤ g
  | _ => True
theorem AdP.same {N : Nat} {d : Dl} {c lev : Int} {W W' : World} (hf : Fr [] W W') : ∀ (j : Nat) (u : Value), AdP N d c lev j u W → AdP N d c lev j u W' := by
  intro j u h
  unfold AdP at h ⊢
  split at h
  · exact h
  · obtain ⟨g, h1, h2, h3⟩ := h; exact ⟨g, h1, hf.keep h2 (by simp), h3⟩
  · exact ⟨row_fr h.1 hf (by simp), h.2⟩
  · obtain ⟨u, h1, h2, h3⟩ := h; exact ⟨u, h1, row_fr h2 hf (by simp), h3⟩
  · obtain ⟨g, h1, h2, h3⟩ := h; exact ⟨g, h1, hf.keep h2 (by simp), h3⟩
  · trivial

/-- Between two rounds: the row holds the one hand, with some seal. -/
def AdI (w W0 : World) (gq pu : Nat) (c lev : Int) (_pre : List HdO) (W : World) : Prop :=
  (∃ s : ByteArray, s.size = 32 ∧ HdY w W (.slice (some ⟨gq, 0, none⟩) 1 pu) [⟨c, lev, s⟩]) ∧ Fr [gq] W0 W
def AdX (_jc : Code) (_pre : List HdO) (_W : World) : Prop := False

set_option maxRecDepth 1000000 in
set_option maxHeartbeats 4000000 in
theorem add1_c (key : ByteArray) (d : Dl) (c lev : Int) (w : World) (hR : RndAt w) (hk : key.size = 32) (hd : dlB d = true) (hc : 0 ≤ c ∧ c ≤ 7) (hl : 0 ≤ lev ∧ lev ≤ 3) :
    Calls Tryz.prog 57 #[.string key, atV d (.slice none 0 0), .int .i64 c, .int .i64 lev] w fun e w' => ∃ v' s, e = .returned (.tuple #[atV d v', .int .i64 0]) ∧ s.size = 32 ∧ HdY w w' v' [⟨c, lev, s⟩] := by
  have hf : fmB ⟨d, [nuH c lev]⟩ = true := fmB_snoc (l := []) hd (by simp) rfl ⟨c, lev, zs32⟩ hc (fun y hy => by cases hy) hl zs32_size
  have HFM := Lib.hid hf
  have HR := Lib.hid hR
  have HK := Lib.hid hk
  have HD := Lib.hid hd
  have CKY := Lib.hid fun W => atIsKey_c key W
  rw [hk] at CKY
  obtain ⟨d0, d1, d2, d3⟩ := d
  clear hf hR hk hd
  refine (callsIn_wide (n := 3)).1 (callsIn_of_wp_marks Tryz.func57 rfl trivial ?_ rfl)
  simp only [Tryz.ntmps57, List.size_toArray, List.length_cons, List.length_nil, Nat.reduceAdd, Nat.reduceSub, Array.replicate_succ, Array.replicate_zero, List.push_toArray, List.append_toArray, List.nil_append, List.cons_append]
  refine wpIn_wide.2 ?_
  go_wp2_with fail
  have A3 := alloc3' w (.cells #[.string key] 9) (.cells #[.int .i64 d0, .int .i64 d1, .int .i64 d2, .int .i64 d3, .slice none 0 0] 44) (.cells #[.int .i64 0, .int .i64 0, .int .i64 0, .int .i64 0, .slice none 0 0] 44)
  have F3 := Lib.hid (((Fr.alloc [] w (.cells #[.string key] 9)).trans (Fr.alloc [] _ (.cells #[.int .i64 d0, .int .i64 d1, .int .i64 d2, .int .i64 d3, .slice none 0 0] 44))).trans (Fr.alloc [] _ (.cells #[.int .i64 0, .int .i64 0, .int .i64 0, .int .i64 0, .slice none 0 0] 44)))
  have HA := Lib.hid A3
  clear A3
  refine (repeat0_c _).mono ?_
  rintro e w1 ⟨rfl, f1⟩
  have HS1 : Hid (w.heap.size + 3 ≤ w1.heap.size) := Lib.hid (by have := f1.size; simp at this; omega)
  have F1 := Lib.hid (F3.out.trans f1)
  have HA1 := Lib.hid (And.intro (f1.keep HA.out.1 (by simp)) (And.intro (f1.keep HA.out.2.1 (by simp)) (f1.keep HA.out.2.2 (by simp))))
  clear f1 HA F3
  go_wp2_with fail
  have fb := Fr.alloc [] w1 (.cells #[.int .i64 c, .int .i64 lev, .string zs32] 60)
  have BH := heap_alloc_new w1 (.cells #[.int .i64 c, .int .i64 lev, .string zs32] 60)
  have F2 := Lib.hid (F1.out.trans fb)
  have HA2 := Lib.hid (And.intro (fb.keep HA1.out.1 (by simp)) (And.intro (fb.keep HA1.out.2.1 (by simp)) (fb.keep HA1.out.2.2 (by simp))))
  have hsz : w1.heap.size ≤ (w1.alloc (.cells #[.int .i64 c, .int .i64 lev, .string zs32] 60)).heap.size := fb.size
  generalize hbh : w1.heap.size = bh at *
  generalize w1.alloc (.cells #[.int .i64 c, .int .i64 lev, .string zs32] 60) = W0 at *
  have HN : Hid (∀ W : World, Fr [] W0 W → w.heap.size + 3 ≤ W.heap.size) := Lib.hid fun W h => by have := h.size; have := HS1.out; omega
  have g0 := cell_of_blk HA2.out.2.1 0; have g1 := cell_of_blk HA2.out.2.1 1; have g2 := cell_of_blk HA2.out.2.1 2; have g3 := cell_of_blk HA2.out.2.1 3; have g4 := cell_of_blk HA2.out.2.1 4
  have h0 := cell_of_blk BH 0; have h1 := cell_of_blk BH 1; have h2 := cell_of_blk BH 2
  clear fb BH hbh hsz F1 HA1 HS1
  refine reg_invC (C := []) (B := []) (Fr [] W0) 10 [0, 1, 2, 3, 5] [(4, []), (6, []), (7, [4, 6]), (8, [7]), (9, [])] (by kernel_rfl) (by kernel_rfl) (by kernel_rfl) (by kernel_rfl) (by kernel_rfl) ?_
  have FC : Fr [] W0 W0.drew := Fr.drew _ _
  iterate 5 (refine tk_take (v := ?_) rfl rfl rfl FC (fun w hS => ?_) ?_; rotate_left; (focus (have s0 := hS.cel g0 (by simp); have s1 := hS.cel g1 (by simp); have s2 := hS.cel g2 (by simp); have s3 := hS.cel g3 (by simp); have s4 := hS.cel g4 (by simp); have s5 := hS.cel h0 (by simp); have s6 := hS.cel h1 (by simp); have s7 := hS.cel h2 (by simp); clear hS; go_simp; rfl)); simp only [List.setIfInBounds_toArray, List.set_cons_succ, List.set_cons_zero])
  refine invC_start [(4, 22), (6, 24), (7, 25), (8, 26), (9, 11)] (AdP (w.heap.size + 3) ⟨d0, d1, d2, d3⟩ c lev) (by decide) FC ⟨fun g W hS hD => ?_, fun g W hS hD => ?_, fun g W hS hD => ?_, fun g W hS hD => ?_, fun g W hS hD => ?_, trivial⟩ (fun g W hS hD => ?_)
  · refine invC_op rfl rfl (fun K hK => ?_)
    simp only [putG, putT, List.setIfInBounds_toArray, List.set_cons_succ, List.set_cons_zero] at hK ⊢
    go_simp
    refine (clone0_c _).mono ?_
    rintro e V ⟨rfl, rfl⟩
    exact hK _ _ hS rfl (fun j u _ _ _ h => h)
  · refine invC_op rfl rfl (fun K hK => ?_)
    simp only [putG, putT, List.setIfInBounds_toArray, List.set_cons_succ, List.set_cons_zero] at hK ⊢
    have fa := Fr.alloc [] W (.cells #[.int .i64 c, .int .i64 lev, .string zs32] 60)
    have hn := HN.out W hS
    go_simp
    exact hK _ _ (hS.trans fa) ⟨_, rfl, heap_alloc_new _ _, hn⟩ (fun j u _ _ _ h => h.same fa)
  · have e4 : g 4 = .slice none 0 0 := hD 4 (by simp)
    obtain ⟨g6, e6, h6, n6⟩ := hD 6 (by simp)
    refine invC_op rfl rfl (fun K hK => ?_)
    simp only [putG, putT, List.setIfInBounds_toArray, List.set_cons_succ, List.set_cons_zero] at hK ⊢
    have hn := HN.out W hS
    refine wp_hd_app (.tmp 22) (.tmp 24) rfl (.slice none 0 0) [] _ [nuH c lev] e4 e6 ⟨World.ownsRow_nil _ _ _ _, (fun g hg => by cases hg), Fr.refl [] W⟩ ⟨.inr ⟨_, 1, rfl, fun j u hu => by rw [add_at, cell_of_blk h6]; simpa [hdC] using hu⟩⟩ (by simp) ?_
    intro v' w' hY' f1 b1
    exact hK v' w' (hS.trans f1) ⟨by simpa using hY'.row, fun b hb => by have := hY'.young b hb; omega⟩ (fun j u _ _ _ h => h.same f1)
  · have h7 := hD 7 (by simp)
    refine invC_op rfl rfl (fun K hK => ?_)
    simp only [putG, putT, List.setIfInBounds_toArray, List.set_cons_succ, List.set_cons_zero] at hK ⊢
    simp only [upG, Nat.reduceEqDiff, if_false, if_true] at hK
    clear hD
    generalize g 7 = x7 at *
    obtain ⟨a7, p7, rfl⟩ := (sl_of_row h7.1).val
    go_simp
    exact hK _ _ hS ⟨_, rfl, h7⟩ (fun j u _ _ _ h => h)
  · refine invC_op rfl rfl (fun K hK => ?_)
    simp only [putG, putT, List.setIfInBounds_toArray, List.set_cons_succ, List.set_cons_zero] at hK ⊢
    have fa := Fr.alloc [] W (.cells #[.int .i64 0, .int .i64 0, .int .i64 0, .int .i64 0, .slice none 0 0] 44)
    have hn := HN.out W hS
    go_simp
    exact hK _ _ (hS.trans fa) ⟨_, rfl, heap_alloc_new _ _, hn⟩ (fun j u _ _ _ h => h.same fa)
  · obtain ⟨u, e8, r8, n8⟩ := hD (8, [7]) (by simp) (by simp)
    obtain ⟨B, e9, hB, nB⟩ := hD (9, []) (by simp) (by simp)
    simp only at e8 e9
    refine inv_fin rfl rfl (fun K hK => ?_)
    simp only [putG, putT, List.setIfInBounds_toArray, List.set_cons_succ, List.set_cons_zero] at hK ⊢
    rw [e8, e9]
    obtain ⟨au, pu, rfl⟩ := (sl_of_row r8).val
    have t0 := cell_of_blk hB 0; have t1 := cell_of_blk hB 1; have t2 := cell_of_blk hB 2; have t3 := cell_of_blk hB 3; have t4 := cell_of_blk hB 4
    have u0 := free_of_blk hB 0; have u1 := free_of_blk hB 1; have u2 := free_of_blk hB 2; have u3 := free_of_blk hB 3; have u4 := free_of_blk hB 4
    go_simp
    try go_upon
    try go_simp
    obtain ⟨KS, FS⟩ := set5 hB (.int .i64 d0) (.int .i64 d1) (.int .i64 d2) (.int .i64 d3) (.slice au 1 pu)
    refine hK _ _ ?_
    clear hK K t0 t1 t2 t3 t4 u0 u1 u2 u3 u4 hD FC
    refine noPanic_nmZ ?_
    -- @@B
    obtain ⟨gq, hau⟩ : ∃ gq, au = some ⟨gq, 0, none⟩ := by
      rcases r8.2 with ⟨h0, h1⟩ | ⟨gq, _, _, hv, _⟩
      · omega
      · cases hv; exact ⟨gq, rfl⟩
    subst hau
    have ngq := n8 gq rfl
    have hBq : B ≠ gq := fun e => row_box r8 hB (by decide) (by rw [e]; rfl)
    have nW := HN.out W hS
    have FW := F2.out.trans hS
    have FW2 := FW.step FS (fun i hi => .inr (by simp at hi; omega))
    have r2 := row_fr r8 FS (fun b hb hm => by rw [List.mem_singleton] at hm; subst hm; exact row_box r8 hB (by decide) hb)
    have hK0 := hS.keep HA2.out.1 (by simp); have hA0 := hS.keep HA2.out.2.1 (by simp); have hZ0 := hS.keep HA2.out.2.2 (by simp)
    have hK1 := FS.keep hK0 (by simp; omega); have hA1 := FS.keep hA0 (by simp; omega); have hZ1 := FS.keep hZ0 (by simp; omega)
    generalize (((((W.setCell ⟨B, 0, none⟩ (.int .i64 d0)).setCell ⟨B, 1, none⟩ (.int .i64 d1)).setCell ⟨B, 2, none⟩ (.int .i64 d2)).setCell ⟨B, 3, none⟩ (.int .i64 d3)).setCell ⟨B, 4, none⟩ (.slice (some ⟨gq, 0, none⟩) 1 pu)) = V at *
    have CF := Lib.hid (formed_c ⟨d0, d1, d2, d3⟩ (.slice (some ⟨gq, 0, none⟩) 1 pu) [nuH c lev] V (by have h := sl_of_row r2; show Sl _ _ _ _; simpa using h) (fun h hh => by rw [List.mem_singleton] at hh; subst hh; rw [zs32_size]; omega))
    rw [HFM.out] at CF
    have HV := Lib.hid FW2; have HRw := Lib.hid r2; have HKb := Lib.hid hK1; have HAb := Lib.hid hA1; have HZb := Lib.hid hZ1; have HBb := Lib.hid KS
    have k0 := cell_of_blk hK1 0
    have b0 := cell_of_blk KS 0; have b1 := cell_of_blk KS 1; have b2 := cell_of_blk KS 2; have b3 := cell_of_blk KS 3; have b4 := cell_of_blk KS 4
    generalize g 4 = u4 at *
    generalize g 6 = u6 at *
    generalize g 7 = u7 at *
    clear hS hB e8 e9 r8 n8 FS FW FW2 r2 hK0 hA0 hZ0 hK1 hA1 hZ1 KS nW h0 h1 h2 g0 g1 g2 g3 g4
    go_wp2_with fail
    refine (CKY.out _).mono ?_
    rintro e w4 ⟨rfl, rfl⟩
    go_wp2_with fail
    refine CF.out.mono ?_
    rintro e w4 ⟨rfl, f4⟩
    have HF4 := Lib.hid f4
    have b0 := f4.cel b0 (by simp); have b1 := f4.cel b1 (by simp); have b2 := f4.cel b2 (by simp); have b3 := f4.cel b3 (by simp); have b4 := f4.cel b4 (by simp)
    have CH := Lib.hid fun W => hands_c ⟨d0, d1, d2, d3⟩ (.slice (some ⟨gq, 0, none⟩) 1 pu) W
    clear f4 CF CKY k0
    go_wp2_with fail
    refine (CH.out _).mono ?_
    rintro e w5 ⟨rfl, hw5⟩
    have f5 := Fr.alloc [] w4 (.cells #[.int .i64 d0, .int .i64 d1, .int .i64 d2, .int .i64 d3, .slice (some ⟨gq, 0, none⟩) 1 pu] 44)
    have D5 := heap_alloc_new w4 (.cells #[.int .i64 d0, .int .i64 d1, .int .i64 d2, .int .i64 d3, .slice (some ⟨gq, 0, none⟩) 1 pu] 44)
    rw [← hw5] at f5 D5
    clear hw5
    go_wp2_with fail
    have HY4 : Hid (HdY w w4 (.slice (some ⟨gq, 0, none⟩) 1 pu) [nuH c lev]) := Lib.hid ⟨by have h := row_fr HRw.out HF4.out (by simp); simpa using h, fun g hg => by cases hg; exact Nat.le_trans (by omega) ngq, HV.out.trans HF4.out⟩
    have hgq4 : gq < w4.heap.size := ownsRow_lt HY4.out.row rfl
    have HKc := Lib.hid (f5.keep (HF4.out.keep HKb.out (by simp)) (by simp)); have HAc := Lib.hid (f5.keep (HF4.out.keep HAb.out (by simp)) (by simp)); have HZc := Lib.hid (f5.keep (HF4.out.keep HZb.out (by simp)) (by simp)); have HBc := Lib.hid (f5.keep (HF4.out.keep HBb.out (by simp)) (by simp))
    have HRw5 := Lib.hid (HR.out.same ((HV.out.trans HF4.out).trans f5) (by simp))
    have HY5 := Lib.hid (HY4.out.same f5)
    have hsz5 := f5.size
    have SQ := hands_seq1 ⟨d0, d1, d2, d3⟩ (.slice (some ⟨gq, 0, none⟩) 1 pu) (nuH c lev) w4.heap.size gq w5 HD.out ⟨hc.1, hc.2, hl.1, by show lev ≤ 1000000; omega, by show zs32.size ≤ 1000; rw [zs32_size]; omega⟩ D5 (by omega) (by have h := HY5.out.row; simpa using h) (by omega)
    have hl1 : (hdsI ⟨d0, d1, d2, d3⟩ 0 ByteArray.empty [nuH c lev]).length = 1 := rfl
    clear D5 f5 b0 b1 b2 b3 b4 CH HRw HKb HAb HZb HBb HF4
    refine (wpIn_wide (n := 3)).1 ?_
    refine wpIn_rangeFunc_ownH (F := Fence.wide) (n := 3) rfl (by omega) (gf := 80) (lb := #[.pointer (some ⟨w4.heap.size, 0, none⟩)]) rfl trivial (fun _ _ => rfl)
      SQ KpC.trans (fun W l o o' hl h hc _ => KpC.put W l o o' h hc) (Below.refl _ _) (fun _ => rfl)
      (AdI w w5 gq pu c lev) AdX ?hI ?hIx ⟨⟨zs32, zs32_size, HY5.out⟩, Fr.refl _ _⟩
      (fun x a' W => ∃ Bx, w5.heap.size ≤ Bx ∧ W.heap[Bx]? = some (.cells #[.int .i64 x.1.2.1.car, .int .i64 x.1.2.1.lev, .string x.1.2.1.sig, .string (str x.1.2.2)] 122 (0, 0)) ∧ a' = { tmps := #[.string key, atV ⟨d0, d1, d2, d3⟩ (.slice none 0 0), .int .i64 c, .int .i64 lev, .pointer (some ⟨w.heap.size, 0, none⟩), .pointer (some ⟨w.heap.size + 1, 0, none⟩), undef, undef, .pointer (some ⟨w.heap.size + 1 + 1, 0, none⟩), .int .i64 0, .pointer (some ⟨bh, 0, none⟩), .pointer (some ⟨B, 0, none⟩), .int .i64 x.1.1, .pointer (some ⟨Bx, 0, none⟩), .int .i64 c, .int .i64 lev, .string zs32, .agg #[.int .i64 c, .int .i64 lev, .string zs32], .pointer (some ⟨w.heap.size + 1, 0, none⟩), .agg #[.int .i64 d0, .int .i64 d1, .int .i64 d2, .int .i64 d3], .pointer (some ⟨w.heap.size + 1, 4, none⟩), .slice none 0 0, u4, .agg #[.int .i64 c, .int .i64 lev, .string zs32], u6, u7, atV ⟨d0, d1, d2, d3⟩ (.slice (some ⟨gq, 0, none⟩) 1 pu), .string key, .bool true, .bool false, .bool false, .agg #[.int .i64 d0, .int .i64 d1, .int .i64 d2, .int .i64 d3, .slice (some ⟨gq, 0, none⟩) 1 pu], .bool true, .bool false, .bool false, undef, .agg #[.int .i64 d0, .int .i64 d1, .int .i64 d2, .int .i64 d3, .slice (some ⟨gq, 0, none⟩) 1 pu], .func (.func 80) #[] #[.pointer (some ⟨w4.heap.size, 0, none⟩)], .int .i64 x.1.1, hxV x.1.2.1 x.1.2.2, undef, undef, undef, undef, undef, undef, undef, undef, undef, undef, undef, undef, undef, undef], defers := [] })
      ?hAx ?assign ?body ?done ?stop
    case hI =>
      rintro s X Y row ⟨⟨sg, hsz, hy⟩, hf⟩ hg hr
      have f := Fr.grown (fp := row.toList) hg (fun k hk => by simp [hk])
      refine ⟨⟨sg, hsz, row_fr hy.row f (fun b hb hm => ?_), hy.young, hy.fr.step f (fun i hi => .inr ?_)⟩, hf.step f (fun i hi => .inr (hr i (by simpa using hi)).1)⟩
      · cases hb
        have := (hr gq (by simpa using hm)).1
        omega
      · have := (hr i (by simpa using hi)).1
        have := HY5.out.fr.size
        omega
    case hIx => exact fun jc s X Y row h => h.elim
    case hAx =>
      rintro m a' s X Y row ⟨Bx, hB, hc, hrest⟩ hg hr
      refine ⟨Bx, hB, (hg.block _ (blk_lt hc) (fun e => ?_)).trans hc, hrest⟩
      obtain ⟨_, o, ho, hn⟩ := hr _ e.symm
      rw [hc] at ho
      cases ho
      cases hn
    case assign =>
      rintro l pre x W K ⟨⟨sg, hsz, hy⟩, hf⟩ hK
      have hWs := hf.size
      obtain ⟨⟨xi, ⟨xc, xv, xs⟩, xt⟩, hx⟩ := x
      gi_wp2
      refine hK _ _ ((KeepsOthers.alloc _ _).from _) (KpC.of (Fr.alloc [gq] _ _)) ⟨⟨sg, hsz, hy.same (Fr.alloc _ _ _)⟩, hf.trans (Fr.alloc _ _ _)⟩ ⟨W.heap.size, hWs, heap_alloc_new _ _, rfl⟩
    case body =>
      rintro l pre x a' W hl hrec ⟨⟨sg, hsz, hy⟩, hf⟩ ⟨Bx, hB, hc, rfl⟩ hlt
      obtain ⟨⟨xi, ⟨xc, xv, xs⟩, xt⟩, hx⟩ := x
      have hws := HY5.out.fr.size
      have LA := Lib.hid (hf.keep HAc.out (by simp; omega)); have LB := Lib.hid (hf.keep HBc.out (by simp; omega)); have LK := Lib.hid (hf.keep HKc.out (by simp; omega))
      have HYW := Lib.hid hy; have HF := Lib.hid hf; have HSG := Lib.hid hsz
      have x0 := cell_of_blk hc 0; have x1 := cell_of_blk hc 1; have x2 := cell_of_blk hc 2; have x3 := cell_of_blk hc 3
      have a4 := cell_of_blk LA.out 4
      have CS := Lib.hid fun W' (h : Fr [] W W') => seal_c ⟨xc, xv, xs⟩ xt key W' (HRw5.out.same (hf.trans (h.mono (by simp))) (by simp; omega)) (by have := hx.1; simp only at this; omega) (by rw [HK.out]; omega)
      clear hy hf hsz hc hrec hl hlt
      simp only at x0 x1 x2 x3
      cases xi with
      | succ xi =>
        have HN : Hid (((((xi + 1 : Nat) : Int) == 0)) = false) := Lib.hid (by rw [beq_eq_false_iff_ne]; omega)
        have HZ : Hid (KeepsFrom w5.heap.size W W ∧ KpC gq W W ∧ AdI w w5 gq pu c lev (pre ++ [(⟨(xi + 1, ⟨xc, xv, xs⟩, xt), hx⟩ : HdO)]) W) := Lib.hid ⟨keepsFrom_frT (Fr.refl [gq] W) (by omega), KpC.of (Fr.refl _ W), ⟨sg, HSG.out, HYW.out⟩, HF.out⟩
        gi_wp2
        exact HZ.out
      | zero =>
        gi_wp2
        refine reg_mixR (Fr [gq] W) [0, 1, 2, 3, 4, 5, 6, 7, 8] (by kernel_rfl) (by kernel_rfl) (by kernel_rfl) rfl (by kernel_rfl) (by rintro ⟨a, w, h⟩; exact h) (Fr.drew _ _) ?_
        have FC : Fr [] W W.drew := Fr.drew _ _
        generalize W.drew = WC at FC ⊢
        have b4 := cell_of_blk LB.out 4
        have k0 := cell_of_blk LK.out 0
        have HN : Hid (B ≠ gq ∧ Bx ≠ gq ∧ w.heap.size ≠ gq) := Lib.hid ⟨hBq, by omega, by omega⟩
        have FCq : Fr [gq] W WC := FC.mono (by simp)
        iterate 5 (refine mix_take1 (v := ?_) rfl rfl rfl rfl (fun w hS => ?_) ?_; rotate_left; (focus (have s0 := hS.cel x0 (by simpa using HN.out.2.1); have s1 := hS.cel x1 (by simpa using HN.out.2.1); have s2 := hS.cel x2 (by simpa using HN.out.2.1); have s3 := hS.cel x3 (by simpa using HN.out.2.1); have s4 := hS.cel b4 (by simpa using HN.out.1); have s5 := hS.cel k0 (by simpa using HN.out.2.2); clear hS; go_simp; rfl)); simp only [List.setIfInBounds_toArray, List.set_cons_succ, List.set_cons_zero])
        refine mix_do rfl rfl rfl (fun K hK => ?_)
        go_simp
        refine (CS.out _ FC).mono ?_
        rintro e w3 ⟨rfl, f3⟩
        have FD := FC.trans f3
        have hz := (show (sealM key xt).size = 32 from shaB_size _)
        generalize sealM key xt = SS at *
        have HY3 := Lib.hid (HYW.out.same FD)
        refine hK _ _ (FD.mono (by simp)) ?_
        clear hK K b4 k0 CS
        try simp only [Act.put, List.setIfInBounds_toArray, List.set_cons_succ, List.set_cons_zero]
        iterate 2 (refine mix_take1 (v := ?_) rfl rfl rfl rfl (fun w hS => ?_) ?_; rotate_left; (focus (clear hS; go_simp; rfl)); simp only [List.setIfInBounds_toArray, List.set_cons_succ, List.set_cons_zero])
        obtain ⟨cur, hcur⟩ := row_blkH (g := gq) (cap := pu) HY3.out.row rfl
        have y0 := free_of_blk hcur.1 2
        obtain ⟨ov, y1⟩ : ∃ ov, w3.cell? ⟨gq, 2, none⟩ = some ov := ⟨_, (cell_of_blk hcur.1 2).trans (Array.getElem?_eq_getElem (by have h := hcur.2; simp at h; omega))⟩
        clear hcur
        refine mix_do (o := ⟨none, _, _, _, _, _⟩) rfl rfl rfl (fun K hK => ?_)
        go_simp
        try go_upon
        try go_simp
        have FQ := Fr.setCell (fp := [gq]) (p := ⟨gq, 2, none⟩) w3 (.string SS) (by simp)
        have HYF : Hid (HdY w (w3.setCell ⟨gq, 2, none⟩ (.string SS)) (.slice (some ⟨gq, 0, none⟩) 1 pu) [⟨c, lev, SS⟩]) := Lib.hid (HY3.out.stamped rfl 0 (by simp) SS)
        refine hK _ _ ((FD.mono (by simp)).trans FQ) ?_
        have FL := Lib.hid ((FD.mono (fp2 := [gq]) (by simp)).trans FQ)
        clear hK K y0 y1 FQ
        generalize w3.setCell ⟨gq, 2, none⟩ (.string SS) = w6 at *
        try simp only [Act.put, List.setIfInBounds_toArray, List.set_cons_succ, List.set_cons_zero]
        refine mix_end ?_
        have HZ : Hid (KeepsFrom w5.heap.size W w6 ∧ KpC gq W w6 ∧ AdI w w5 gq pu c lev (pre ++ [(⟨(0, ⟨xc, xv, xs⟩, xt), hx⟩ : HdO)]) w6) := Lib.hid ⟨keepsFrom_frT FL.out (by omega), KpC.of FL.out, ⟨SS, hz, HYF.out⟩, HF.out.trans FL.out⟩
        clear FC FCq FD f3 x0 x1 x2 x3 a4
        gi_wp2
        exact HZ.out
    case done =>
      rintro E ys W hE hS ⟨⟨sg, hsz, hy⟩, hf⟩ hK
      have hws := HY5.out.fr.size
      have LB := hf.keep HBc.out (by simp; omega); have LZ := hf.keep HZc.out (by simp; omega)
      have hrb : ∃ cur, w5.heap[gq]? = some (.cells cur 60 (0, 0)) := by
        obtain ⟨cur, h, _⟩ := row_blkH (g := gq) (cap := pu) HY5.out.row rfl
        exact ⟨cur, h⟩
      have c0 := cell_of_blk LB 0; have c1 := cell_of_blk LB 1; have c2 := cell_of_blk LB 2; have c3 := cell_of_blk LB 3
      have b4 := cell_of_blk LB 4
      have z0 := cell_of_blk LZ 0; have z1 := cell_of_blk LZ 1; have z2 := cell_of_blk LZ 2; have z3 := cell_of_blk LZ 3; have z4 := cell_of_blk LZ 4
      have y0 := free_of_blk LZ 0; have y1 := free_of_blk LZ 1; have y2 := free_of_blk LZ 2; have y3 := free_of_blk LZ 3; have y4 := free_of_blk LZ 4
      obtain ⟨KF, FF⟩ := set5 LZ (.int .i64 d0) (.int .i64 d1) (.int .i64 d2) (.int .i64 d3) (.slice (some ⟨gq, 0, none⟩) 1 pu)
      have hyF : Hid (HdY w _ (.slice (some ⟨gq, 0, none⟩) 1 pu) [⟨c, lev, sg⟩]) := Lib.hid ⟨row_fr hy.row FF (fun b hb hm => by cases hb; simp at hm; omega), hy.young, hy.fr.step FF (fun i hi => .inr (by simp at hi; omega))⟩
      have HKE := Lib.hid (FF.keep hK (by simp; omega))
      have HKF := Lib.hid KF
      clear hy hf hS hK LB LZ FF KF hrb
      go_wp2_with fail
      refine ⟨by simp, .inl ⟨_, _, rfl, run_takeDeferred HKE.out, ?_⟩⟩
      have R := (World.putObj_heap_other (r := E) (o := .deferred none) (fun e => by omega)).trans HKF.out
      have k0 := cell_of_blk R 0; have k1 := cell_of_blk R 1; have k2 := cell_of_blk R 2; have k3 := cell_of_blk R 3; have k4 := cell_of_blk R 4
      have FQ := fun V2 : World => Fr.grown (fp := [E]) (grownBy_putObj' V2 E (.deferred none)) (fun k hk => by cases hk; simp)
      refine ⟨.tuple #[atV ⟨d0, d1, d2, d3⟩ (.slice (some ⟨gq, 0, none⟩) 1 pu), .int .i64 0], by simp [results, Tryz.results57, go_sem, k0, k1, k2, k3, k4]; try rfl, ?_⟩
      exact ⟨_, rfl, sg, hsz, row_fr hyF.out.row (FQ _) (fun b hb hm => by cases hb; simp at hm; omega), hyF.out.young, hyF.out.fr.step (FQ _) (fun i hi => .inr (by simp at hi; omega))⟩
    case stop => exact fun E jc pre W hE hSp h => h.elim

/-- The attestation of a call by its first carrier. -/
theorem begin_c (key : ByteArray) (d : Dl) (c lev : Int) (w : World) (hR : RndAt w) (hk : key.size = 32) (hd : dlB d = true) (hc : 0 ≤ c ∧ c ≤ 7) (hl : 0 ≤ lev ∧ lev ≤ 3) :
    Calls Tryz.prog 19 #[.string key, .agg #[.int .i64 d.caller, .int .i64 d.called, .int .i64 d.at_, .int .i64 d.serial], .int .i64 c, .int .i64 lev] w fun e w' => ∃ v' s, e = .returned (.tuple #[atV d v', .int .i64 0]) ∧ s.size = 32 ∧ HdY w w' v' [⟨c, lev, s⟩] := by
  have CA := Lib.hid fun W (hf : Fr [] w W) => add1_c key d c lev W (hR.same hf (by simp)) hk hd hc hl
  obtain ⟨d0, d1, d2, d3⟩ := d
  have A2 := alloc2' w (.cells #[.int .i64 d0, .int .i64 d1, .int .i64 d2, .int .i64 d3] 41) (.cells #[.int .i64 0, .int .i64 0, .int .i64 0, .int .i64 0, .slice none 0 0] 44)
  have F2 := Lib.hid ((Fr.alloc [] w (.cells #[.int .i64 d0, .int .i64 d1, .int .i64 d2, .int .i64 d3] 41)).trans (Fr.alloc [] _ (.cells #[.int .i64 0, .int .i64 0, .int .i64 0, .int .i64 0, .slice none 0 0] 44)))
  have HA := Lib.hid A2
  clear A2 hR hk hd hc hl
  go_enter Tryz.func19, Tryz.ntmps19
  go_wp2_with fail
  refine (CA.out _ F2.out).mono ?_
  rintro e w1 ⟨v', s, rfl, hs, hY⟩
  obtain ⟨va, vp, rfl⟩ := hY.at_.val
  have LZ := hY.fr.keep HA.out.2 (by simp)
  have z0 := cell_of_blk LZ 0; have z1 := cell_of_blk LZ 1; have z2 := cell_of_blk LZ 2; have z3 := cell_of_blk LZ 3; have z4 := cell_of_blk LZ 4
  have y0 := free_of_blk LZ 0; have y1 := free_of_blk LZ 1; have y2 := free_of_blk LZ 2; have y3 := free_of_blk LZ 3; have y4 := free_of_blk LZ 4
  have hsz : w.heap.size + 1 < ((w.alloc (.cells #[.int .i64 d0, .int .i64 d1, .int .i64 d2, .int .i64 d3] 41)).alloc (.cells #[.int .i64 0, .int .i64 0, .int .i64 0, .int .i64 0, .slice none 0 0] 44)).heap.size := by simp
  obtain ⟨KF, FF⟩ := set5 LZ (.int .i64 d0) (.int .i64 d1) (.int .i64 d2) (.int .i64 d3) (.slice va 1 vp)
  have hF : Hid (HdY w _ (.slice va 1 vp) [⟨c, lev, s⟩]) := Lib.hid (HdY.mk (row_fr hY.row FF (fun b hb hm => by have := hY.young b hb; simp at hm; omega)) (fun g hg => Nat.le_trans F2.out.size (hY.young g hg)) ((F2.out.trans hY.fr).step FF (fun i hi => .inr (by simp at hi; omega))))
  have k0 := cell_of_blk KF 0; have k1 := cell_of_blk KF 1; have k2 := cell_of_blk KF 2; have k3 := cell_of_blk KF 3; have k4 := cell_of_blk KF 4
  have HSS := Lib.hid hs
  clear hY LZ KF FF hs
  go_wp2_with fail
  refine bodyPost_ret (v := .tuple #[.agg #[.int .i64 d0, .int .i64 d1, .int .i64 d2, .int .i64 d3, .slice va 1 vp], .int .i64 0]) (by simp [results, Tryz.results19, go_sem, k0, k1, k2, k3, k4]; try rfl) rfl ?_
  exact ⟨_, s, rfl, HSS.out, hF.out⟩

end Go.Proofs.YtahfpadaoobkfaaGreatDoor
