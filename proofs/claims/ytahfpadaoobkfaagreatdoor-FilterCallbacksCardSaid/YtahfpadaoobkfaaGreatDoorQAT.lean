/-
  slices.IndexFunc and slices.ContainsFunc at emergency calls; filter.Take.
-/
import Derived.Test.YtahfpadaoobkfaaGreatDoorQS24
import Derived.Test.YtahfpadaoobkfaaGreatDoorQS25
namespace Go.Proofs.YtahfpadaoobkfaaGreatDoor
open Go.RowKit Go.Lib

structure Rs where
  num : Int
  cen : Int
  at_ : Int
instance : Inhabited Rs := ⟨⟨0, 0, 0⟩⟩
def rsC (r : Rs) : List Value := [.int .i64 r.num, .int .i64 r.cen, .int .i64 r.at_]
abbrev rsV (r : Rs) : Value := .agg #[.int .i64 r.num, .int .i64 r.cen, .int .i64 r.at_]

set_option maxRecDepth 100000 in
set_option maxHeartbeats 1000000 in
theorem ifRes_c (f : Nat) (lb : Array Value) (eg : ∀ args w, (callFunc f args).run Tryz.prog w = .ok (.enter f args) w) (a : Option Addr) (cap : Nat) (zs : List Rs) (p : Nat → Bool) (J : Nat → World → Prop) (w : World)
    (hsl : ∀ k W, J k W → Sl W (.slice a zs.length cap) zs.length (zs.flatMap rsC)) (hst : Steps f lb zs.length (fun k => rsV (zs.getD k default)) p J) (h0 : J 0 w) :
    Calls Tryz.prog 88 #[.slice a zs.length cap, .func (.func f) #[] lb] w fun e w' => e = .returned (.int .i64 (idxN p zs.length)) ∧ ∃ k, J k w' := by
  have hlen := (hsl 0 w h0).len
  have HSL := Lib.hid hsl; have HST := Lib.hid hst; have H0 := Lib.hid h0
  clear hsl hst h0
  go_enter Tryz.func88, Tryz.ntmps88
  go_wp2_with fail
  go_loopw [8] (fun i wr => ∃ k : Nat, k ≤ zs.length ∧ i = .int .i64 k ∧ Hid (J k wr) ∧ Hid (∀ j, j < k → p j = false)) (fun i _ => zs.length - (RowKit.intOf i).toNat)
  case atStart => exact ⟨0, Nat.zero_le _, rfl, H0, Lib.hid fun j h => by omega⟩
  case round =>
    obtain ⟨k, hk, rfl, HJ, HP⟩ := hrel
    by_cases hlt : k < zs.length
    · obtain ⟨b, off, ha, hc⟩ := (HSL.out k wr HJ.out).at_ (by omega)
      subst ha
      have c0 := hc (k * 3 + 0) _ ((flat_get (enc := rsC) (k := 3) (fun _ => rfl) zs k hlt 0 (by omega)).trans rfl)
      have c1 := hc (k * 3 + 1) _ ((flat_get (enc := rsC) (k := 3) (fun _ => rfl) zs k hlt 1 (by omega)).trans rfl)
      have c2 := hc (k * 3 + 2) _ ((flat_get (enc := rsC) (k := 3) (fun _ => rfl) zs k hlt 2 (by omega)).trans rfl)
      have hs := HST.out k wr hlt HP.out HJ.out
      simp only at hs
      rw [show zs.getD k default = zs[k] by simp [hlt]] at hs
      generalize zs[k] = x at *
      obtain ⟨x0, x1, x2⟩ := x
      simp only [Nat.add_zero] at hs c0 c1 c2
      simp only [← Nat.add_assoc] at c0 c1 c2
      clear hc
      cases hb : p k with
      | true =>
        rw [hb] at hs
        have HS := Lib.hid hs; have Hb := Lib.hid hb; clear hs hb
        go_wp2_with fail
        refine HS.out.mono ?_
        rintro e w1 ⟨rfl, j1⟩
        have J1 := Lib.hid j1; clear j1
        go_wp2_with fail
        go_ret
        exact ⟨by rw [idxN_some hlt Hb.out HP.out]; rfl, k + 1, J1.out⟩
      | false =>
        rw [hb] at hs
        have HS := Lib.hid hs; have Hb := Lib.hid hb; clear hs hb
        go_wp2_with fail
        refine HS.out.mono ?_
        rintro e w1 ⟨rfl, j1⟩
        have J1 := Lib.hid j1; clear j1
        go_wp2_with fail
        go_roundw
        case rel => exact ⟨k + 1, by omega, by go_num, J1, Lib.hid fun j h => by
          rcases Nat.lt_or_ge j k with h1 | h1
          · exact HP.out j h1
          · obtain rfl : j = k := by omega
            exact Hb.out⟩
        case measure => simp [RowKit.intOf]; omega
    · obtain rfl : k = zs.length := by omega
      go_wp2_with fail
      go_ret
      exact ⟨by rw [idxN_none HP.out]; rfl, _, HJ.out⟩

theorem cfRes_c (f : Nat) (lb : Array Value) (eg : ∀ args w, (callFunc f args).run Tryz.prog w = .ok (.enter f args) w) (a : Option Addr) (cap : Nat) (zs : List Rs) (p : Nat → Bool) (J : Nat → World → Prop) (w : World)
    (hsl : ∀ k W, J k W → Sl W (.slice a zs.length cap) zs.length (zs.flatMap rsC)) (hst : Steps f lb zs.length (fun k => rsV (zs.getD k default)) p J) (h0 : J 0 w) :
    Calls Tryz.prog 52 #[.slice a zs.length cap, .func (.func f) #[] lb] w fun e w' => e = .returned (.bool (anyN p zs.length)) ∧ ∃ k, J k w' := by
  have c := Lib.hid (ifRes_c f lb eg a cap zs p J w hsl hst h0)
  clear hsl hst h0 eg
  rw [← idxN_ge]
  generalize idxN p zs.length = r at *
  go_enter Tryz.func52, Tryz.ntmps52
  go_wp2_with (go_at_call 88; refine c.out.mono ?_; rintro e w1 ⟨rfl, h1⟩; have H1 := Lib.hid h1; clear h1)
  go_ret
  exact ⟨rfl, H1.out⟩


end Go.Proofs.YtahfpadaoobkfaaGreatDoor

/-
  filter: Take.
-/
namespace Go.Proofs.YtahfpadaoobkfaaGreatDoor
open Go.RowKit Go.Lib

theorem w64_inT (x : Int) (h : -9223372036854775808 ≤ x ∧ x ≤ 9223372036854775807) : wrap64 x = x := by
  unfold wrap64
  omega
def rsB (r : Rs) : Bool := isInB r.num 0 99999999 && isInB r.cen 0 99999999 && isInB r.at_ 0 10000000
def backB (d : Dl) (r : Rs) : Bool := decide (r.num = d.called) && decide (r.cen = d.caller) && isInB (d.at_ - r.at_) 0 86399
def takeOk (keys : List ByteArray) (a : At) (fwd : Int) (l : List Rs) : Bool := fmB a && keysB keys && isInB fwd 0 5 && decide (l.length ≤ 40) && l.all rsB
def takeM (keys : List ByteArray) (a : At) (fwd : Int) (l : List Rs) : Ca := ⟨a.dial.caller, a.dial.called, a.dial.at_, (chkM keys a).1, fwd, l.any (backB a.dial)⟩

set_option maxRecDepth 100000 in
theorem take1_c (r : Rs) (w : World) : Calls Tryz.prog 49 #[rsV r] w fun e w' => e = .returned (.bool (!rsB r)) ∧ Fr [] w w' := by
  obtain ⟨r0, r1, r2⟩ := r
  have FA := Lib.hid (Fr.alloc [] w (.cells #[.int .i64 r0, .int .i64 r1, .int .i64 r2] 84))
  unfold rsB rsV
  simp only
  go_enter Tryz.func49, Tryz.ntmps49
  go_wp2_with fail
  refine (fIsNumber_c _ _).mono ?_
  rintro e _ ⟨rfl, rfl⟩
  cases h0 : isInB r0 0 99999999 with
  | false =>
    go_wp2_with fail
    go_ret
    exact ⟨by simp [h0], FA.out⟩
  | true =>
    go_wp2_with fail
    refine (fIsNumber_c _ _).mono ?_
    rintro e _ ⟨rfl, rfl⟩
    cases h1 : isInB r1 0 99999999 with
    | false =>
      go_wp2_with fail
      go_ret
      exact ⟨by simp [h1], FA.out⟩
    | true =>
      go_wp2_with fail
      refine (fIsIn_c _ _ _ _).mono ?_
      rintro e _ ⟨rfl, rfl⟩
      cases h2 : isInB r2 0 10000000 with
      | false =>
        go_wp2_with fail
        go_ret
        exact ⟨by simp [h2], FA.out⟩
      | true =>
        go_wp2_with fail
        go_ret
        exact ⟨by simp [h0, h1, h2], FA.out⟩

set_option maxRecDepth 100000 in
theorem take2_c (r : Rs) (d : Dl) (bd : Nat) (w : World) (hd : w.heap[bd]? = some (.cells #[.int .i64 d.caller, .int .i64 d.called, .int .i64 d.at_, .int .i64 d.serial] 41 (0, 0))) (hr : 0 ≤ r.at_ ∧ r.at_ ≤ 10000000) (ha : 0 ≤ d.at_ ∧ d.at_ ≤ 10000000) :
    Calls Tryz.prog 53 #[rsV r, .pointer (some ⟨bd, 0, none⟩)] w fun e w' => e = .returned (.bool (backB d r)) ∧ Fr [] w w' := by
  obtain ⟨r0, r1, r2⟩ := r
  obtain ⟨d0, d1, d2, d3⟩ := d
  have FA := Lib.hid (Fr.alloc [] w (.cells #[.int .i64 r0, .int .i64 r1, .int .i64 r2] 84))
  have c0 := cell_of_blk hd 0; have c1 := cell_of_blk hd 1; have c2 := cell_of_blk hd 2
  have hbl := blk_lt hd
  have HW : Hid (wrap64 (d2 - r2) = d2 - r2) := Lib.hid (w64_inT _ (by simp only at hr ha; omega))
  have HB : Hid (backB ⟨d0, d1, d2, d3⟩ ⟨r0, r1, r2⟩ = (decide (r0 = d1) && decide (r1 = d0) && isInB (d2 - r2) 0 86399)) := Lib.hid rfl
  unfold rsV
  simp only at c0 c1 c2 ⊢
  clear hd hr ha
  by_cases h0 : r0 = d1
  · have h0b : (r0 == d1) = true := by simpa using h0
    have T0 := Lib.hid (decide_eq_true h0)
    clear h0
    by_cases h1 : r1 = d0
    · have h1b : (r1 == d0) = true := by simpa using h1
      have T1 := Lib.hid (decide_eq_true h1)
      clear h1
      go_enter Tryz.func53, Tryz.ntmps53
      go_wp2_with fail
      rw [HW.out]
      refine (fIsIn_c _ _ _ _).mono ?_
      rintro e _ ⟨rfl, rfl⟩
      go_wp2_with fail
      go_ret
      exact ⟨by rw [HB.out, T0.out, T1.out]; simp, FA.out⟩
    · have h1b : (r1 == d0) = false := by simpa using h1
      have T1 := Lib.hid (decide_eq_false h1)
      clear h1
      go_enter Tryz.func53, Tryz.ntmps53
      go_wp2_with fail
      go_ret
      exact ⟨by rw [HB.out, T1.out]; simp, FA.out⟩
  · have h0b : (r0 == d1) = false := by simpa using h0
    have T0 := Lib.hid (decide_eq_false h0)
    clear h0
    go_enter Tryz.func53, Tryz.ntmps53
    go_wp2_with fail
    go_ret
    exact ⟨by rw [HB.out, T0.out]; simp, FA.out⟩

set_option maxRecDepth 100000 in
theorem cfRes_bad (v : Value) (l : List Rs) (w : World) (h : Sl w v l.length (l.flatMap rsC)) : Calls Tryz.prog 52 #[v, .func (.func 49) #[] #[]] w fun e w' => e = .returned (.bool (!l.all rsB)) ∧ Fr [] w w' := by
  obtain ⟨a, cap, rfl⟩ := h.val
  refine (cfRes_c 49 #[] (fun _ _ => rfl) a cap l (fun k => !rsB (l.getD k default)) (fun _ W => Fr [] w W) w (fun k W hJ => h.same hJ) ?_ (Fr.refl _ _)).mono ?_
  · intro k W hk _ hJ
    exact (take1_c _ W).mono fun e w' ⟨he, hf⟩ => ⟨he, hJ.trans hf⟩
  · rintro e w' ⟨rfl, k, hJ⟩
    exact ⟨by rw [anyN_list l (fun r => !rsB r) default, List.not_all_eq_any_not], hJ⟩
set_option maxRecDepth 100000 in
theorem cfRes_back (v : Value) (l : List Rs) (d : Dl) (bd : Nat) (w : World) (h : Sl w v l.length (l.flatMap rsC)) (hd : w.heap[bd]? = some (.cells #[.int .i64 d.caller, .int .i64 d.called, .int .i64 d.at_, .int .i64 d.serial] 41 (0, 0))) (hr : l.all rsB = true) (ha : 0 ≤ d.at_ ∧ d.at_ ≤ 10000000) :
    Calls Tryz.prog 52 #[v, .func (.func 53) #[] #[.pointer (some ⟨bd, 0, none⟩)]] w fun e w' => e = .returned (.bool (l.any (backB d))) ∧ Fr [] w w' := by
  obtain ⟨a, cap, rfl⟩ := h.val
  refine (cfRes_c 53 #[.pointer (some ⟨bd, 0, none⟩)] (fun _ _ => rfl) a cap l (fun k => backB d (l.getD k default)) (fun _ W => Fr [] w W) w (fun k W hJ => h.same hJ) ?_ (Fr.refl _ _)).mono ?_
  · intro k W hk _ hJ
    have hm : l.getD k default ∈ l := by simp [hk]
    have hb := List.all_eq_true.1 hr _ hm
    simp only [rsB, Bool.and_eq_true, isInB_iff] at hb
    exact (take2_c _ d bd W (hJ.keep hd (by simp)) hb.2 ha).mono fun e w' ⟨he, hf⟩ => ⟨he, hJ.trans hf⟩
  · rintro e w' ⟨rfl, k, hJ⟩
    exact ⟨by rw [anyN_list l (backB d) default], hJ⟩

set_option maxRecDepth 100000 in
set_option maxHeartbeats 2000000 in
theorem fTake_ok (vK : Value) (keys : List ByteArray) (d : Dl) (v : Value) (hs : List Hd) (fwd : Int) (vl : Value) (l : List Rs) (w : World) (hR : RndAt w) (hK : Sl w vK keys.length (keys.map Value.string)) (hk : ∀ k, k ∈ keys → k.size ≤ 1000000) (hrow : w.ownsRow 0 60 3 v hs.length (hs.flatMap hdC)) (hz : ∀ h, h ∈ hs → h.sig.size ≤ 9223372036854775807)
    (hl : Sl w vl l.length (l.flatMap rsC)) (hok : takeOk keys ⟨d, hs⟩ fwd l = true) :
    Calls Tryz.prog 12 #[vK, atV d v, .int .i64 fwd, vl] w fun e w' => e = .returned (.tuple #[caV (takeM keys ⟨d, hs⟩ fwd l), .int .i64 0]) ∧ Fr [] w w' := by
  obtain ⟨ka, kc, rfl⟩ := hK.val
  have hsl := sl_of_row hrow
  obtain ⟨ha, hc, rfl⟩ := hsl.val
  obtain ⟨la, lc, rfl⟩ := hl.val
  have hln := hl.len
  simp only [takeOk, Bool.and_eq_true, decide_eq_true_eq] at hok
  obtain ⟨⟨⟨⟨hfm, hkb⟩, hfw⟩, hl40⟩, hlb⟩ := hok
  have hdl := (dlB_parts (fmB_parts hfm).1).2.2.1
  have hcv : chkV keys ⟨d, hs⟩ = .tuple #[.int .i64 (chkM keys ⟨d, hs⟩).1, .int .i64 (chkM keys ⟨d, hs⟩).2, .int .i64 0] := by unfold chkV; rw [hfm, hkb]; rfl
  have HM : Hid (takeM keys ⟨d, hs⟩ fwd l = ⟨d.caller, d.called, d.at_, (chkM keys ⟨d, hs⟩).1, fwd, l.any (backB d)⟩) := Lib.hid rfl
  have A5 := heap_alloc_new w (.cells #[.int .i64 d.caller, .int .i64 d.called, .int .i64 d.at_, .int .i64 d.serial, .slice ha hs.length hc] 44)
  have f8 := Fr.alloc [] (w.alloc (.cells #[.int .i64 d.caller, .int .i64 d.called, .int .i64 d.at_, .int .i64 d.serial, .slice ha hs.length hc] 44)) (.cells #[.int .i64 0, .int .i64 0, .int .i64 0, .int .i64 0, .int .i64 0, .bool false] 54)
  have F0 := (Fr.alloc [] w (.cells #[.int .i64 d.caller, .int .i64 d.called, .int .i64 d.at_, .int .i64 d.serial, .slice ha hs.length hc] 44)).trans f8
  have B5 := f8.keep A5 (by simp)
  have B8 := heap_alloc_new (w.alloc (.cells #[.int .i64 d.caller, .int .i64 d.called, .int .i64 d.at_, .int .i64 d.serial, .slice ha hs.length hc] 44)) (.cells #[.int .i64 0, .int .i64 0, .int .i64 0, .int .i64 0, .int .i64 0, .bool false] 54)
  simp only [World.size_alloc] at B8
  have CC := atCheck_c (.slice ka keys.length kc) keys d (.slice ha hs.length hc) hs _ (hR.same F0 (by simp)) (hK.same F0) hk (row_fr hrow F0 (by simp)) hz
  rw [hcv] at CC
  have HCC := Lib.hid CC
  have CB := Lib.hid fun (W : World) (hf : Fr [] w W) => cfRes_bad (.slice la l.length lc) l W (hl.same hf)
  have CK := Lib.hid fun (W : World) (hf : Fr [] w W) (bd : Nat) (hd : W.heap[bd]? = some (.cells #[.int .i64 d.caller, .int .i64 d.called, .int .i64 d.at_, .int .i64 d.serial] 41 (0, 0))) => cfRes_back (.slice la l.length lc) l d bd W (hl.same hf) hd hlb hdl
  have HB5 := Lib.hid B5; have HB8 := Lib.hid B8; have HF0 := Lib.hid F0
  rw [hlb] at CB
  have hl40b : ¬ (40 : Int) < (l.length : Int) := by omega
  have HFW := Lib.hid hfw
  clear A5 f8 F0 B5 B8 CC hR hK hk hrow hsl hz hl hcv hfm hkb hlb hdl hfw
  obtain ⟨d0, d1, d2, d3⟩ := d
  unfold atV at HCC ⊢
  simp only at HCC HB5 HB8 HF0 CK HM ⊢
  generalize l.any (backB ⟨d0, d1, d2, d3⟩) = bk at *
  generalize chkM keys ⟨⟨d0, d1, d2, d3⟩, hs⟩ = cm at *
  obtain ⟨lev, idx⟩ := cm
  simp only at HCC HM
  go_enter Tryz.func12, Tryz.ntmps12
  go_wp2_with fail
  refine HCC.out.mono ?_
  rintro e w1 ⟨rfl, f1⟩
  have F1 := Lib.hid (HF0.out.trans f1)
  have C5 := Lib.hid (f1.keep HB5.out (by simp)); have C8 := Lib.hid (f1.keep HB8.out (by simp))
  clear f1 HCC HB5 HB8 HF0
  go_wp2_with fail
  refine (fIsIn_c _ _ _ _).mono ?_
  rintro e _ ⟨rfl, rfl⟩
  rw [HFW.out]
  go_wp2_with fail
  refine (CB.out _ F1.out).mono ?_
  rintro e w2 ⟨rfl, f2⟩
  have F2 := Lib.hid (F1.out.trans f2)
  have D5 := Lib.hid (f2.keep C5.out (by simp)); have D8 := Lib.hid (f2.keep C8.out (by simp))
  have e0 := cell_of_blk D5.out 0; have e1 := cell_of_blk D5.out 1; have e2 := cell_of_blk D5.out 2; have e3 := cell_of_blk D5.out 3
  clear f2 F1 C5 C8 CB
  go_wp2_with fail
  have FA := Fr.alloc [] w2 (.cells #[.int .i64 d0, .int .i64 d1, .int .i64 d2, .int .i64 d3] 41)
  have A14 := heap_alloc_new w2 (.cells #[.int .i64 d0, .int .i64 d1, .int .i64 d2, .int .i64 d3] 41)
  have E8 := FA.keep D8.out (by simp)
  have h82 := blk_lt D8.out
  have HFA := Lib.hid (F2.out.trans FA)
  generalize hb14 : w2.heap.size = b14 at *
  generalize w2.alloc (.cells #[.int .i64 d0, .int .i64 d1, .int .i64 d2, .int .i64 d3] 41) = WA at *
  have x0 := cell_of_blk A14 0; have x1 := cell_of_blk A14 1; have x2 := cell_of_blk A14 2
  refine reg_mix (Fr [w.heap.size + 1] WA) [0, 1, 2, 3, 4, 5, 6, 7, 8, 9, 10, 11, 12, 13] (by kernel_rfl) (by kernel_rfl) (by kernel_rfl) rfl (Fr.drew _ _) ?_
  have FC : Fr [w.heap.size + 1] WA WA.drew := Fr.drew _ _
  have E8 := (Fr.drew [] WA).keep E8 (by simp); have A15 := (Fr.drew [] WA).keep A14 (by simp)
  have HFC := Lib.hid (HFA.out.trans (Fr.drew [] WA))
  generalize WA.drew = WC at FC E8 A15 HFC ⊢
  iterate 10 (refine mix_take1 (v := ?_) rfl rfl rfl rfl (fun w hS => ?_) ?_; rotate_left; (focus (have s0 := hS.cel x0 (by simp; omega); have s1 := hS.cel x1 (by simp; omega); have s2 := hS.cel x2 (by simp; omega); clear hS; go_simp; rfl)); simp only [List.setIfInBounds_toArray, List.set_cons_succ, List.set_cons_zero])
  refine mix_do rfl rfl rfl (fun K hK => ?_)
  go_simp
  refine (CK.out WC HFC.out b14 A15).mono ?_
  rintro e W4 ⟨rfl, f4⟩
  have E9 := f4.keep E8 (by simp)
  have HF4 := Lib.hid (HFC.out.trans f4)
  have FC := FC.trans (f4.mono (fp2 := [w.heap.size + 1]) (by simp))
  refine hK _ _ FC ?_
  clear hK K f4 E8 A15 HFC
  try simp only [Act.put, List.setIfInBounds_toArray, List.set_cons_succ, List.set_cons_zero]
  (refine mix_take1 (v := ?_) rfl rfl rfl rfl (fun w hS => ?_) ?_; rotate_left; (focus (clear hS; go_simp; rfl)); simp only [List.setIfInBounds_toArray, List.set_cons_succ, List.set_cons_zero])
  have a0 := cell_of_blk E9 0; have a1 := cell_of_blk E9 1; have a2 := cell_of_blk E9 2; have a3 := cell_of_blk E9 3; have a4 := cell_of_blk E9 4; have a5 := cell_of_blk E9 5
  have g0 := free_of_blk E9 0; have g1 := free_of_blk E9 1; have g2 := free_of_blk E9 2; have g3 := free_of_blk E9 3; have g4 := free_of_blk E9 4; have g5 := free_of_blk E9 5
  refine mix_do rfl rfl rfl (fun K hK => ?_)
  go_simp
  try go_upon
  try go_simp
  have FS : Fr [w.heap.size + 1] W4 ((((((W4.setCell ⟨w.heap.size + 1, 0, none⟩ (.int .i64 d0)).setCell ⟨w.heap.size + 1, 1, none⟩ (.int .i64 d1)).setCell ⟨w.heap.size + 1, 2, none⟩ (.int .i64 d2)).setCell ⟨w.heap.size + 1, 3, none⟩ (.int .i64 lev)).setCell ⟨w.heap.size + 1, 4, none⟩ (.int .i64 fwd)).setCell ⟨w.heap.size + 1, 5, none⟩ (.bool bk)) := (((((Fr.setCell _ _ (by simp)).trans (Fr.setCell _ _ (by simp))).trans (Fr.setCell _ _ (by simp))).trans (Fr.setCell _ _ (by simp))).trans (Fr.setCell _ _ (by simp))).trans (Fr.setCell _ _ (by simp))
  have Q8 := heap_setCell_same (i := 5) (.bool bk) (heap_setCell_same (i := 4) (.int .i64 fwd) (heap_setCell_same (i := 3) (.int .i64 lev) (heap_setCell_same (i := 2) (.int .i64 d2) (heap_setCell_same (i := 1) (.int .i64 d1) (heap_setCell_same (i := 0) (.int .i64 d0) E9)))))
  have FC := FC.trans FS
  refine hK _ _ FC ?_
  clear hK K
  try simp only [Act.put, List.setIfInBounds_toArray, List.set_cons_succ, List.set_cons_zero]
  have FW : Fr [] w ((((((W4.setCell ⟨w.heap.size + 1, 0, none⟩ (.int .i64 d0)).setCell ⟨w.heap.size + 1, 1, none⟩ (.int .i64 d1)).setCell ⟨w.heap.size + 1, 2, none⟩ (.int .i64 d2)).setCell ⟨w.heap.size + 1, 3, none⟩ (.int .i64 lev)).setCell ⟨w.heap.size + 1, 4, none⟩ (.int .i64 fwd)).setCell ⟨w.heap.size + 1, 5, none⟩ (.bool bk)) := HF4.out.step FS (fun i hi => .inr (by simp at hi; omega))
  generalize ((((((W4.setCell ⟨w.heap.size + 1, 0, none⟩ (.int .i64 d0)).setCell ⟨w.heap.size + 1, 1, none⟩ (.int .i64 d1)).setCell ⟨w.heap.size + 1, 2, none⟩ (.int .i64 d2)).setCell ⟨w.heap.size + 1, 3, none⟩ (.int .i64 lev)).setCell ⟨w.heap.size + 1, 4, none⟩ (.int .i64 fwd)).setCell ⟨w.heap.size + 1, 5, none⟩ (.bool bk)) = W5 at *
  (refine mix_take1 (v := ?_) rfl rfl rfl rfl (fun w hS => ?_) ?_; rotate_left; (focus (clear hS; go_simp; rfl)); simp only [List.setIfInBounds_toArray, List.set_cons_succ, List.set_cons_zero])
  refine mix_end ?_
  have R8 : W5.heap[w.heap.size + 1]? = some (.cells #[.int .i64 d0, .int .i64 d1, .int .i64 d2, .int .i64 lev, .int .i64 fwd, .bool bk] 54 (0, 0)) := by simpa using Q8
  have k0 := cell_of_blk R8 0; have k1 := cell_of_blk R8 1; have k2 := cell_of_blk R8 2; have k3 := cell_of_blk R8 3; have k4 := cell_of_blk R8 4; have k5 := cell_of_blk R8 5
  have HFW := Lib.hid FW
  clear FS Q8 FC FW E9 a0 a1 a2 a3 a4 a5 g0 g1 g2 g3 g4 g5 x0 x1 x2 R8
  go_wp2_with fail
  refine bodyPost_ret (v := .tuple #[.agg #[.int .i64 d0, .int .i64 d1, .int .i64 d2, .int .i64 lev, .int .i64 fwd, .bool bk], .int .i64 0]) (by simp [results, Tryz.results12, go_sem, k0, k1, k2, k3, k4, k5]; try rfl) rfl ?_
  exact ⟨by rw [HM.out], HFW.out⟩

end Go.Proofs.YtahfpadaoobkfaaGreatDoor
