/-
  slices.IndexFunc and slices.ContainsFunc at strings; what known keys are.
-/
import Derived.Test.YtahfpadaoobkfaaGreatDoorQS20
import Derived.Test.YtahfpadaoobkfaaGreatDoorQS12
import Derived.Test.YtahfpadaoobkfaaGreatDoorQS23
import Derived.Test.YtahfpadaoobkfaaGreatDoorQS04
import Derived.Test.YtahfpadaoobkfaaGreatDoorQS03
namespace Go.Proofs.YtahfpadaoobkfaaGreatDoor
open Go.RowKit Go.Lib

set_option maxRecDepth 100000 in
set_option maxHeartbeats 1000000 in
theorem ifStr_c (f : Nat) (lb : Array Value) (eg : ∀ args w, (callFunc f args).run Tryz.prog w = .ok (.enter f args) w) (a : Option Addr) (cap : Nat) (zs : List ByteArray) (p : Nat → Bool) (J : Nat → World → Prop) (w : World)
    (hsl : ∀ k W, J k W → Sl W (.slice a zs.length cap) zs.length (zs.map Value.string)) (hst : Steps f lb zs.length (fun k => .string (zs.getD k ByteArray.empty)) p J) (h0 : J 0 w) :
    Calls Tryz.prog 78 #[.slice a zs.length cap, .func (.func f) #[] lb] w fun e w' => e = .returned (.int .i64 (idxN p zs.length)) ∧ ∃ k, J k w' := by
  have hlen := (hsl 0 w h0).len
  have HSL := Lib.hid hsl; have HST := Lib.hid hst; have H0 := Lib.hid h0
  clear hsl hst h0
  go_enter Tryz.func78, Tryz.ntmps78
  go_wp2_with fail
  go_loopw [8] (fun i wr => ∃ k : Nat, k ≤ zs.length ∧ i = .int .i64 k ∧ Hid (J k wr) ∧ Hid (∀ j, j < k → p j = false)) (fun i _ => zs.length - (RowKit.intOf i).toNat)
  case atStart => exact ⟨0, Nat.zero_le _, rfl, H0, Lib.hid fun j h => by omega⟩
  case round =>
    obtain ⟨k, hk, rfl, HJ, HP⟩ := hrel
    by_cases hlt : k < zs.length
    · obtain ⟨b, off, ha, hc⟩ := (HSL.out k wr HJ.out).at_ (by omega)
      subst ha
      have c0 : wr.cell? ⟨b, off + k, none⟩ = some (.string zs[k]) := hc k _ (by simp [hlt])
      have hs := HST.out k wr hlt HP.out HJ.out
      simp only at hs
      rw [show zs.getD k ByteArray.empty = zs[k] by simp [hlt]] at hs
      generalize zs[k] = x at *
      clear hc
      cases hb : p k with
      | true =>
        rw [hb] at hs
        have HS := Lib.hid hs; have Hb := Lib.hid hb; clear hs hb
        go_wp2_with fail
        refine HS.out.mono ?_
        rintro e w1 ⟨rfl, j1⟩
        have J1 := Lib.hid j1; clear j1
        go_wp2_with fail
        go_ret
        exact ⟨by rw [idxN_some hlt Hb.out HP.out]; rfl, k + 1, J1.out⟩
      | false =>
        rw [hb] at hs
        have HS := Lib.hid hs; have Hb := Lib.hid hb; clear hs hb
        go_wp2_with fail
        refine HS.out.mono ?_
        rintro e w1 ⟨rfl, j1⟩
        have J1 := Lib.hid j1; clear j1
        go_wp2_with fail
        go_roundw
        case rel => exact ⟨k + 1, by omega, by go_num, J1, Lib.hid fun j h => by
          rcases Nat.lt_or_ge j k with h1 | h1
          · exact HP.out j h1
          · obtain rfl : j = k := by omega
            exact Hb.out⟩
        case measure => simp [RowKit.intOf]; omega
    · obtain rfl : k = zs.length := by omega
      go_wp2_with fail
      go_ret
      exact ⟨by rw [idxN_none HP.out]; rfl, _, HJ.out⟩

theorem cfStr_c (f : Nat) (lb : Array Value) (eg : ∀ args w, (callFunc f args).run Tryz.prog w = .ok (.enter f args) w) (a : Option Addr) (cap : Nat) (zs : List ByteArray) (p : Nat → Bool) (J : Nat → World → Prop) (w : World)
    (hsl : ∀ k W, J k W → Sl W (.slice a zs.length cap) zs.length (zs.map Value.string)) (hst : Steps f lb zs.length (fun k => .string (zs.getD k ByteArray.empty)) p J) (h0 : J 0 w) :
    Calls Tryz.prog 42 #[.slice a zs.length cap, .func (.func f) #[] lb] w fun e w' => e = .returned (.bool (anyN p zs.length)) ∧ ∃ k, J k w' := by
  have c := Lib.hid (ifStr_c f lb eg a cap zs p J w hsl hst h0)
  clear hsl hst h0 eg
  rw [← idxN_ge]
  generalize idxN p zs.length = r at *
  go_enter Tryz.func42, Tryz.ntmps42
  go_wp2_with (go_at_call 78; refine c.out.mono ?_; rintro e w1 ⟨rfl, h1⟩; have H1 := Lib.hid h1; clear h1)
  go_ret
  exact ⟨rfl, H1.out⟩


theorem atIsKey_c (s : ByteArray) (w : World) : Calls Tryz.prog 37 #[.string s] w fun e w' => e = .returned (.bool (decide (s.size = 32))) ∧ w = w' := by
  by_cases h : s.size = 32
  · go_enter Tryz.func37, Tryz.ntmps37
    go_wp2
    go_ret
    exact ⟨by simp [h], rfl⟩
  · go_enter Tryz.func37, Tryz.ntmps37
    go_wp2
    go_ret
    exact ⟨by have h2 : ¬ (s.size : Int) = 32 := by omega
              simp [h, h2], rfl⟩
theorem toList_someC {s : ByteArray} (h : s ≠ ByteArray.empty) : s.toList.isEmpty = false := by
  rw [ByteArray.toList_eq]
  cases hl : s.data.toList with
  | nil => exact absurd (ByteArray.ext (Array.ext' hl)) h
  | cons x l => rfl
def badK (s : ByteArray) : Bool := !(decide (s.size = 0) || decide (s.size = 32))
theorem atIsKnown1_c (s : ByteArray) (w : World) : Calls Tryz.prog 77 #[.string s] w fun e w' => e = .returned (.bool (badK s)) ∧ w = w' := by
  have CK := Lib.hid (atIsKey_c s w)
  by_cases h : s = ByteArray.empty
  · subst h
    clear CK
    go_enter Tryz.func77, Tryz.ntmps77
    go_wp2_with fail
    go_ret
    exact ⟨by simp [badK]; try rfl, rfl⟩
  · have hq : s.toList.isEmpty = false := toList_someC h
    have h0 : decide (s.size = 0) = false := decide_eq_false (fun e => h (ByteArray.ext (Array.eq_empty_of_size_eq_zero e)))
    have HB : Hid (badK s = !decide (s.size = 32)) := Lib.hid (by rw [badK, h0]; rfl)
    clear h h0
    go_enter Tryz.func77, Tryz.ntmps77
    go_wp2_with fail
    refine CK.out.mono ?_
    rintro e w1 ⟨rfl, rfl⟩
    go_wp2_with fail
    go_ret
    exact ⟨by rw [HB.out]; try rfl, rfl⟩

theorem keysB_any (keys : List ByteArray) : keysB keys = (decide (keys.length = 8) && !keys.any badK) := by
  unfold keysB
  congr 1
  induction keys with
  | nil => rfl
  | cons k l ih => rw [List.all_cons, List.any_cons, Bool.not_or, ← ih, badK, Bool.not_not]
set_option maxRecDepth 100000 in
theorem isKnown_c (v : Value) (keys : List ByteArray) (w : World) (hs : Sl w v keys.length (keys.map Value.string)) : Calls Tryz.prog 41 #[v] w fun e w' => e = .returned (.bool (keysB keys)) ∧ w = w' := by
  obtain ⟨a, cap, rfl⟩ := hs.val
  have hlen := hs.len
  have C := cfStr_c 77 #[] (fun _ _ => rfl) a cap keys (fun k => badK (keys.getD k ByteArray.empty)) (fun _ W => W = w) w (fun k W hJ => hJ ▸ hs) (fun k W hk _ hJ => (atIsKnown1_c _ W).mono fun e w' ⟨he, hw⟩ => ⟨he, hw ▸ hJ⟩) rfl
  rw [anyN_list keys badK ByteArray.empty] at C
  have HC := Lib.hid C
  rw [keysB_any]
  clear C hs
  generalize keys.any badK = b at *
  by_cases h8 : keys.length = 8
  · have h81 : ((keys.length : Int) == 8) = true := by simp; omega
    rw [decide_eq_true h8]
    clear h8
    go_enter Tryz.func41, Tryz.ntmps41
    go_wp2_with fail
    refine HC.out.mono ?_
    rintro e w1 ⟨rfl, k, rfl⟩
    go_wp2_with fail
    go_ret
    exact ⟨by simp, rfl⟩
  · have h81 : ((keys.length : Int) == 8) = false := by simp; omega
    rw [decide_eq_false h8]
    clear h8
    go_enter Tryz.func41, Tryz.ntmps41
    go_wp2_with fail
    go_ret
    exact ⟨by simp, rfl⟩

end Go.Proofs.YtahfpadaoobkfaaGreatDoor

/-
  attest: Check.
-/
namespace Go.Proofs.YtahfpadaoobkfaaGreatDoor
open Go.RowKit Go.Lib

theorem rnd_lt {w : World} (h : RndAt w) : 0 < w.heap.size := by
  obtain ⟨t, fz, h⟩ := h
  exact (Array.getElem?_eq_some_iff.1 h).1
theorem hands_c (d : Dl) (v : Value) (w : World) : Calls Tryz.prog 45 #[atV d v] w fun e w' => e = .returned (.func (.func 80) #[] #[.pointer (some ⟨w.heap.size, 0, none⟩)]) ∧ w' = w.alloc (.cells #[.int .i64 d.caller, .int .i64 d.called, .int .i64 d.at_, .int .i64 d.serial, v] 44) := by
  go_enter Tryz.func45, Tryz.ntmps45
  go_wp2_with fail
  go_ret
  exact ⟨rfl, rfl⟩

theorem fstP_idx (q : Hd × List UInt8 → Bool) (d : Dl) : ∀ (l : List Hd) (i : Nat) (b : ByteArray) (pre : List HdX), fstP (fun _ x => q x.2) pre (hdsI d i b l) = match (hdsM d i b l).findIdx? q with
    | none => none
    | some j => some (i + j, (hdsM d i b l).getD j default)
  | [], _, _, _ => rfl
  | h :: l, i, b, pre => by
    rw [hdsI, fstP, hdsM, List.findIdx?_cons]
    cases hq : q (h, cntM d i h b) with
    | true => simp
    | false =>
      simp only [Bool.false_eq_true, if_false]
      rw [fstP_idx q d l (i + 1) h.sig _]
      cases (hdsM d (i + 1) h.sig l).findIdx? q with
      | none => rfl
      | some j => simp; omega

set_option maxRecDepth 100000 in
theorem check1_c (h : Hd) (c : List UInt8) (v : Value) (keys : List ByteArray) (bk : Nat) (w : World) (hR : RndAt w) (hc : c.length ≤ 1000000) (hb : w.heap[bk]? = some (.cells #[v] 38 (0, 0))) (hs : Sl w v keys.length (keys.map Value.string)) (hk : ∀ k, k ∈ keys → k.size ≤ 1000000) (hcar : 0 ≤ h.car ∧ h.car < keys.length) :
    Calls Tryz.prog 86 #[hxV h c, .pointer (some ⟨bk, 0, none⟩)] w fun e w' => e = .returned (.bool (shownM keys (h, c))) ∧ Fr [] w w' := by
  have FA := Fr.alloc [] w (.cells #[.int .i64 h.car, .int .i64 h.lev, .string h.sig, .string (str c)] 122)
  have CS := Lib.hid (shown_c h c v keys _ (hR.same FA (by simp)) hc (hs.same FA) hk hcar)
  have HF := Lib.hid FA
  have c0 := cell_of_blk hb 0
  have hbl := blk_lt hb
  obtain ⟨a, cap, rfl⟩ := hs.val
  obtain ⟨xc, xv, xs⟩ := h
  clear FA hR hb hs hk hcar
  unfold hxV at CS ⊢
  simp only at CS ⊢
  go_enter Tryz.func86, Tryz.ntmps86
  go_wp2_with fail
  refine CS.out.mono ?_
  rintro e w1 ⟨rfl, f1⟩
  have F1 := Lib.hid (HF.out.trans f1)
  clear f1 CS
  go_wp2_with fail
  go_ret
  exact ⟨rfl, F1.out⟩

/-- What Check answers. -/
def chkV (keys : List ByteArray) (a : At) : Value := if fmB a && keysB keys then .tuple #[.int .i64 (chkM keys a).1, .int .i64 (chkM keys a).2, .int .i64 0] else .tuple #[.int .i64 0, .int .i64 0, .int .i64 250]

set_option maxRecDepth 100000 in
set_option maxHeartbeats 2000000 in
theorem atCheck_c (vK : Value) (keys : List ByteArray) (d : Dl) (v : Value) (hs : List Hd) (w : World) (hR : RndAt w) (hK : Sl w vK keys.length (keys.map Value.string)) (hk : ∀ k, k ∈ keys → k.size ≤ 1000000) (hrow : w.ownsRow 0 60 3 v hs.length (hs.flatMap hdC)) (hz : ∀ h, h ∈ hs → h.sig.size ≤ 9223372036854775807) :
    Calls Tryz.prog 48 #[vK, atV d v] w fun e w' => e = .returned (chkV keys ⟨d, hs⟩) ∧ Fr [] w w' := by
  obtain ⟨ka, kc, rfl⟩ := hK.val
  have hkn := hK.len
  have hsl := sl_of_row hrow
  obtain ⟨ha, hc, rfl⟩ := hsl.val
  have HV : Hid (chkV keys ⟨d, hs⟩ = if fmB ⟨d, hs⟩ && keysB keys then .tuple #[.int .i64 (chkM keys ⟨d, hs⟩).1, .int .i64 (chkM keys ⟨d, hs⟩).2, .int .i64 0] else .tuple #[.int .i64 0, .int .i64 0, .int .i64 250]) := Lib.hid rfl
  have A2 := heap_alloc_new w (.cells #[.slice ka keys.length kc] 38)
  have f2 := Fr.alloc [] (w.alloc (.cells #[.slice ka keys.length kc] 38)) (.cells #[.int .i64 d.caller, .int .i64 d.called, .int .i64 d.at_, .int .i64 d.serial, .slice ha hs.length hc] 44)
  have F0 := (Fr.alloc [] w (.cells #[.slice ka keys.length kc] 38)).trans f2
  have B2 := f2.keep A2 (by simp)
  have B3 := heap_alloc_new (w.alloc (.cells #[.slice ka keys.length kc] 38)) (.cells #[.int .i64 d.caller, .int .i64 d.called, .int .i64 d.at_, .int .i64 d.serial, .slice ha hs.length hc] 44)
  have CF := Lib.hid (formed_c d _ hs _ (hsl.same F0) hz)
  have CK := Lib.hid fun (W : World) (hf : Fr [] w W) => isKnown_c _ keys W (hK.same hf)
  simp only [World.size_alloc] at B3
  obtain ⟨d0, d1, d2, d3⟩ := d
  unfold atV at CF ⊢
  simp only at CF B3 B2 F0 ⊢
  have HB2 := Lib.hid B2; have HB3 := Lib.hid B3; have HF0 := Lib.hid F0; have HR := Lib.hid hR; have HK := Lib.hid hK; have HKs := Lib.hid hk; have HRow := Lib.hid hrow
  clear A2 f2 F0 B2 B3 hR hK hk hrow hsl hz
  cases hfm : fmB ⟨⟨d0, d1, d2, d3⟩, hs⟩ with
  | false =>
    rw [hfm] at CF HV
    go_enter Tryz.func48, Tryz.ntmps48
    go_wp2_with fail
    refine CF.out.mono ?_
    rintro e w1 ⟨rfl, f1⟩
    have F1 := Lib.hid (HF0.out.trans f1)
    clear f1 CF
    go_wp2_with fail
    go_ret3
    exact ⟨by rw [HV.out]; rfl, F1.out⟩
  | true =>
    rw [hfm] at CF HV
    have HFM := Lib.hid hfm
    have hlt := rnd_lt HR.out
    clear hfm
    cases hkb : keysB keys with
    | false =>
      rw [hkb] at HV CK
      go_enter Tryz.func48, Tryz.ntmps48
      go_wp2_with fail
      refine CF.out.mono ?_
      rintro e w1 ⟨rfl, f1⟩
      have F1 := Lib.hid (HF0.out.trans f1)
      have c0 := cell_of_blk (f1.keep HB2.out (by simp)) 0
      clear f1 CF
      go_wp2_with fail
      refine (CK.out _ F1.out).mono ?_
      rintro e w2 ⟨rfl, rfl⟩
      go_wp2_with fail
      go_ret3
      exact ⟨by rw [HV.out]; rfl, F1.out⟩
    | true =>
      rw [hkb] at HV CK
      have HKB := Lib.hid hkb
      clear hkb
      go_enter Tryz.func48, Tryz.ntmps48
      go_wp2_with fail
      refine CF.out.mono ?_
      rintro e w1 ⟨rfl, f1⟩
      have F1 := Lib.hid (HF0.out.trans f1)
      have C2 := Lib.hid (f1.keep HB2.out (by simp)); have C3 := Lib.hid (f1.keep HB3.out (by simp))
      have c0 := cell_of_blk C2.out 0
      clear f1 CF
      go_wp2_with fail
      refine (CK.out _ F1.out).mono ?_
      rintro e w2 ⟨rfl, rfl⟩
      clear c0
      have e0 := cell_of_blk C3.out 0; have e1 := cell_of_blk C3.out 1; have e2 := cell_of_blk C3.out 2; have e3 := cell_of_blk C3.out 3; have e4 := cell_of_blk C3.out 4
      have CH := Lib.hid fun W => hands_c ⟨d0, d1, d2, d3⟩ (.slice ha hs.length hc) W
      go_wp2_with fail
      refine (CH.out _).mono ?_
      rintro e w3 ⟨rfl, hw3⟩
      have f3 := Fr.alloc [] w1 (.cells #[.int .i64 d0, .int .i64 d1, .int .i64 d2, .int .i64 d3, .slice ha hs.length hc] 44)
      have D3 := heap_alloc_new w1 (.cells #[.int .i64 d0, .int .i64 d1, .int .i64 d2, .int .i64 d3, .slice ha hs.length hc] 44)
      rw [← hw3] at f3 D3
      have hw1 := blk_lt C3.out
      obtain ⟨hdl, hln, hgo⟩ := fmB_parts HFM.out
      simp only at hln hgo hdl
      have F3 := F1.out.trans f3
      have K2 := f3.keep C2.out (by simp)
      have hk8 : keys.length = 8 := by
        have := HKB.out
        simp only [keysB, Bool.and_eq_true, decide_eq_true_eq] at this
        exact this.1
      have hkb0 : ∀ g, (Value.slice ka keys.length kc).ownBlock = some g → g ∉ [w.heap.size] := fun g hg => by
        obtain ⟨kb, ko, hka, hcl⟩ := HK.out.at_ (by omega)
        subst hka
        have hlt2 := cell_ltT (hcl 0 _ (by simp [hk8]; rfl))
        have hkg : kb = g := by simpa [Value.ownBlock] using hg
        simp; omega
      have FI := first_c 86 #[.pointer (some ⟨w.heap.size, 0, none⟩)] (fun _ _ => rfl) ⟨d0, d1, d2, d3⟩ (.slice ha hs.length hc) hs w1.heap.size w.heap.size 38 (fun _ => #[.slice ka keys.length kc]) (fun _ x => shownM keys x.2) w3 hdl
        (fun h hh => by have := fmGo_le _ _ _ hgo h hh; omega) (by omega) D3 (by omega) (row_fr HRow.out F3 (by simp)) (fun g hg => by have := ownsRow_lt HRow.out hg; omega) K2
        (fun pre x W hx hf hb => by
          obtain ⟨xi, xh, xc⟩ := x
          have hfw : Fr [w.heap.size] w W := (F3.mono (by simp)).trans hf
          refine (check1_c xh xc _ keys w.heap.size W (HR.out.same hfw (by simp; omega)) (by have := hx.1; simp only at this; omega) hb (HK.out.fr hfw hkb0) HKs.out ⟨hx.2.1, by have := hx.2.2.1; simp only at this; omega⟩).mono ?_
          rintro e w' ⟨rfl, f⟩
          exact ⟨rfl, f.keep hb (by simp), f.mono (by simp)⟩)
      rw [fstP_idx (shownM keys)] at FI
      have F3w : Fr [] w w3 := F3
      cases hfi : (hdsM ⟨d0, d1, d2, d3⟩ 0 ByteArray.empty hs).findIdx? (shownM keys) with
      | none =>
        rw [hfi] at FI
        have HM : Hid (chkM keys ⟨⟨d0, d1, d2, d3⟩, hs⟩ = (0, -1)) := Lib.hid (by unfold chkM hdsA; rw [hfi])
        have FI : Calls Tryz.prog 44 #[.func (.func 80) #[] #[.pointer (some ⟨w1.heap.size, 0, none⟩)], .func (.func 86) #[] #[.pointer (some ⟨w.heap.size, 0, none⟩)]] w3 fun e w' => Fr [w.heap.size] w3 w' ∧ e = .returned (.tuple #[.int .i64 (-1), .agg #[.int .i64 0, .int .i64 0, .string ⟨#[]⟩, .string ⟨#[]⟩]]) := FI
        have HFI := Lib.hid FI; have HF3 := Lib.hid F3w
        clear FI hfi F3 F3w K2 D3 f3 hw3 e0 e1 e2 e3 e4 CK CH hkb0
        go_wp2_with fail
        refine HFI.out.mono ?_
        rintro e w4 ⟨f4, rfl⟩
        have F4 : Hid (Fr [] w w4) := Lib.hid (HF3.out.step f4 (fun i hi => .inr (by simp at hi; omega)))
        clear f4 HFI
        go_wp2_with fail
        go_ret3
        exact ⟨by rw [HV.out, HM.out]; rfl, F4.out.trans (Fr.alloc _ _ _)⟩
      | some j =>
        rw [hfi] at FI
        obtain ⟨x, hx⟩ : ∃ x, (hdsM ⟨d0, d1, d2, d3⟩ 0 ByteArray.empty hs).getD j default = x := ⟨_, rfl⟩
        have HM : Hid (chkM keys ⟨⟨d0, d1, d2, d3⟩, hs⟩ = (x.1.lev, (j : Int))) := Lib.hid (by
          unfold chkM hdsA
          rw [hfi]
          simp only
          rw [hx])
        simp only at FI
        rw [hx] at FI
        obtain ⟨⟨xc, xv, xs⟩, xt⟩ := x
        have FI : Calls Tryz.prog 44 #[.func (.func 80) #[] #[.pointer (some ⟨w1.heap.size, 0, none⟩)], .func (.func 86) #[] #[.pointer (some ⟨w.heap.size, 0, none⟩)]] w3 fun e w' => Fr [w.heap.size] w3 w' ∧ e = .returned (.tuple #[.int .i64 ((0 + j : Nat) : Int), .agg #[.int .i64 xc, .int .i64 xv, .string xs, .string (str xt)]]) := FI
        rw [Nat.zero_add] at FI
        have HFI := Lib.hid FI; have HF3 := Lib.hid F3w
        clear FI hfi F3 F3w K2 D3 f3 hw3 e0 e1 e2 e3 e4 CK CH hkb0 hx
        go_wp2_with fail
        refine HFI.out.mono ?_
        rintro e w4 ⟨f4, rfl⟩
        have F4 : Hid (Fr [] w w4) := Lib.hid (HF3.out.step f4 (fun i hi => .inr (by simp at hi; omega)))
        clear f4 HFI
        go_wp2_with fail
        go_ret3
        exact ⟨by rw [HV.out, HM.out]; rfl, F4.out.trans (Fr.alloc _ _ _)⟩

end Go.Proofs.YtahfpadaoobkfaaGreatDoor

/-
  A region that draws its order whose effects float (Reg6.lean), where one effect consumes what another one has made: (j, c) in C: what is known of j holds until c is done; (j, i) in B: j comes behind i.
-/
namespace Go.Proofs.YtahfpadaoobkfaaGreatDoor

section
variable {C B : List (Nat × Nat)} {P : Program} {ops : Array Oper} {Q : Exit → Act → World → Prop} {S : World → Prop} {fin : Nat}

/-- Each effect by itself. -/
def StepsC (C B : List (Nat × Nat)) (P : Program) (ops : Array Oper) (Q : Exit → Act → World → Prop) (S : World → Prop) (A : (Nat → Value) → Act) (Pd : Nat → Value → World → Prop) : List (Nat × List Nat) → Prop
  | [] => True
  | (i, D) :: E => (∀ g w, S w → (∀ j ∈ D, Pd j (g j) w) → wpOp P ops Q i (fun a' w' => S w' ∧ ∃ v, a' = A (upG g i v) ∧ Pd i v w' ∧ ∀ j u, j ≠ i → (j, i) ∉ C → (j, i) ∉ B → Pd j u w → Pd j u w') (A g) w) ∧ StepsC C B P ops Q S A Pd E
theorem StepsC.get {A : (Nat → Value) → Act} {Pd : Nat → Value → World → Prop} : ∀ {E : List (Nat × List Nat)}, StepsC C B P ops Q S A Pd E → ∀ {i : Nat} {D : List Nat}, (i, D) ∈ E →
    ∀ g w, S w → (∀ j ∈ D, Pd j (g j) w) → wpOp P ops Q i (fun a' w' => S w' ∧ ∃ v, a' = A (upG g i v) ∧ Pd i v w' ∧ ∀ j u, j ≠ i → (j, i) ∉ C → (j, i) ∉ B → Pd j u w → Pd j u w') (A g) w
  | [], _, _, _, hm => by cases hm
  | (_, _) :: _, h, _, _, hm => by
    rcases List.mem_cons.1 hm with hm | hm
    · cases hm; exact h.1
    · exact StepsC.get h.2 hm

def permC (C B : List (Nat × Nat)) (ops : Array Oper) (fin : Nat) (tk : List Nat) (E : List (Nat × List Nat)) : Bool :=
  ((List.range ops.size).all fun i => tk.contains i || (E.map (·.1)).contains i || i == fin)
    && ((List.range ops.size).all fun i => i == fin || waitsB ops ops.size i fin)
    && decide (fin < ops.size) && !tk.contains fin
    && ((List.range ops.size).all fun i => match ops[i]? with | none => false | some o => o.after.all fun e => !Region.binds .any e || decide (e.on < i))
    && (B.all fun y => waitsB ops ops.size y.2 y.1)
    && (E.all fun x => !(x.1 == fin) && !tk.contains x.1 && decide (x.1 < ops.size) && x.2.all fun j => !tk.contains j && (C.all fun y => !(y.1 == j) || y.2 == x.1 || waitsB ops ops.size x.1 y.2) && (match ops[x.1]? with | none => false | some o => o.after.any fun e => Region.binds .any e && e.on == j))

def InvC (C B : List (Nat × Nat)) (P : Program) (ops : Array Oper) (Q : Exit → Act → World → Prop) (S : World → Prop) (fin : Nat) (E : List (Nat × List Nat)) (a : Act) (w : World) : Prop :=
  ∃ (A : (Nat → Value) → Act) (Pd : Nat → Value → World → Prop) (g0 : Nat → Value), a = A g0 ∧ S w ∧ StepsC C B P ops Q S A Pd E ∧ ∀ g w, S w → (∀ e ∈ E, (∀ c, (e.1, c) ∉ C) → Pd e.1 (g e.1) w) → wpOp P ops Q fin (fun a' w' => Q .normal a' w') (A g) w

theorem invC_start {E : List (Nat × List Nat)} {a : Act} {w : World} (ds : List (Nat × Nat)) (Pd : Nat → Value → World → Prop) (hn : (ds.map (·.1)).Nodup) (hS : S w) (h1 : StepsC C B P ops Q S (putG a ds) Pd E)
    (h2 : ∀ g w, S w → (∀ e ∈ E, (∀ c, (e.1, c) ∉ C) → Pd e.1 (g e.1) w) → wpOp P ops Q fin (fun a' w' => Q .normal a' w') (putG a ds g) w) : InvC C B P ops Q S fin E a w := by
  obtain ⟨g, hg⟩ := putT_self ds a.tmps hn
  exact ⟨putG a ds, Pd, g, by unfold putG; rw [hg], hS, h1, h2⟩

theorem wpAnyF_of_invC {tk : List Nat} {E : List (Nat × List Nat)} (hp : permC C B ops fin tk E = true) {fuel : Nat} {l : Array Bool} {a : Act} {w : World} (hc : Closed ops l) (hl : l.toList.countP (fun b => !b) ≤ fuel) (hz : l.size = ops.size)
    (htk : ∀ k, l.getD k false = true ↔ k ∈ tk) (h : InvC C B P ops Q S fin E a w) : wpAnyF P ops Q S fin fuel l a w := by
  simp only [permC, Bool.and_eq_true, decide_eq_true_eq, Bool.not_eq_true', List.all_eq_true, List.mem_range, Bool.or_eq_true, beq_iff_eq, beq_eq_false_iff_ne] at hp
  obtain ⟨⟨⟨⟨⟨⟨hcov, hwt⟩, hf⟩, hft⟩, hlow⟩, hB⟩, hE⟩ := hp
  have hft : fin ∉ tk := by simpa using hft
  obtain ⟨A, Pd, g0, rfl, hS, hst, hfin⟩ := h
  have hdone : ∀ l : Array Bool, Closed ops l → (l.getD fin false = true ∨ fin ∈ Region.ready .any ops l) → ∀ i, i < ops.size → i ≠ fin → l.getD i false = true := fun l hc hl i hi hne =>
    waits_listed hc ops.size fin ((hwt i hi).resolve_left hne) hl
  refine wpAnyF_of_inv (fun l a w => l.size = ops.size ∧ (∀ k ∈ tk, l.getD k false = true) ∧ ((l.getD fin false = true ∧ Q .normal a w) ∨ (l.getD fin false = false ∧ ∃ g, a = A g ∧ S w ∧ ∀ i, i ∉ tk → l.getD i false = true → (∀ c, (i, c) ∈ C → l.getD c false = false) → Pd i (g i) w))) ?_ ?_ fuel l _ w hc hl ⟨hz, fun k hk => (htk k).2 hk, .inr ⟨?_, g0, rfl, hS, fun i hi hh _ => absurd ((htk i).1 hh) hi⟩⟩
  · rintro l a w i hc hi ⟨hz, ht, h⟩
    have hun := (ready_false hi).2
    have hi' : i < ops.size := by
      rcases Nat.lt_or_ge i ops.size with h' | h'
      · exact h'
      · have := (ready_false hi).1
        rw [List.getElem?_eq_none (by simpa [hz] using h')] at this
        cases this
    have hset : (l.setIfInBounds i true).getD i false = true := by simp [hz, hi']
    rcases h with ⟨h1, _⟩ | ⟨h1, g, rfl, hS, hP⟩
    · exfalso
      by_cases hne : i = fin
      · subst hne; rw [h1] at hun; cases hun
      · have := hdone l hc (.inl h1) i hi' hne
        rw [this] at hun; cases hun
    · by_cases hne : i = fin
      · subst hne
        refine wpOp_mono (fun a' w' hq => ⟨.inl hset, by simpa using hz, fun k hk => getD_set_true (ht k hk), .inl ⟨hset, hq⟩⟩) (hfin g w hS fun e he hnc => ?_)
        have he' := hE e he
        exact hP e.1 (by simpa using he'.1.1.2) (hdone l hc (.inr hi) e.1 he'.1.2 he'.1.1.1) (fun c hc => absurd hc (hnc c))
      · have hcv := hcov i hi'
        have hnt : i ∉ tk := fun hh => by rw [ht i hh] at hun; cases hun
        have hm : i ∈ E.map (·.1) := by
          rcases hcv with (h2 | h2) | h2
          · exact absurd (by simpa using h2) hnt
          · simpa using h2
          · exact absurd h2 hne
        obtain ⟨⟨i', D⟩, hmE, hii⟩ := List.mem_map.1 hm
        simp only at hii
        subst hii
        have he' := hE _ hmE
        simp only at he'
        have hD : ∀ j ∈ D, Pd j (g j) w := fun j hj => by
          obtain ⟨⟨hj1, hjC⟩, hj2⟩ := he'.2 j hj
          obtain ⟨_, o, ho, hall⟩ := mem_ready.1 hi
          rw [ho] at hj2
          simp only [Array.any_eq_true] at hj2
          obtain ⟨x, hx, hj2⟩ := hj2
          simp only [Bool.and_eq_true, beq_iff_eq] at hj2
          have h5 := hall _ (Array.getElem_mem hx) hj2.1
          rw [hj2.2] at h5
          exact hP j (by simpa using hj1) h5 (fun c hcm => by
            rcases hjC (j, c) hcm with (h6 | h6) | h6
            · exact absurd rfl h6
            · simp only at h6; rw [h6]; exact hun
            · cases hlc : l.getD c false with
              | false => rfl
              | true =>
                have := waits_listed hc ops.size c h6 (.inl hlc)
                rw [this] at hun; cases hun)
        refine wpOp_mono ?_ (hst.get hmE g w hS hD)
        rintro a' w' ⟨hS', v, rfl, hv, hk⟩
        refine ⟨.inr hS', by simpa using hz, fun k hk => getD_set_true (ht k hk), .inr ⟨?_, upG g i' v, rfl, hS', fun j hj hjd hjc => ?_⟩⟩
        · rw [getD_set_ne false (by simpa using he'.1.1.1)]; exact h1
        · by_cases hji : j = i'
          · subst hji; rw [upG_self]; exact hv
          · rw [upG_ne g v hji]
            rw [getD_set_ne false (Ne.symm hji)] at hjd
            exact hk j _ hji (fun hm => by have := hjc _ hm; rw [hset] at this; cases this) (fun hm => by
              have := waits_listed hc ops.size j (hB _ hm) (.inl hjd)
              rw [this] at hun; cases hun) (hP j hj hjd (fun c hcm => by
              have h7 := hjc c hcm
              by_cases hci : c = i'
              · subst hci; rw [hset] at h7; cases h7
              · rwa [getD_set_ne false (Ne.symm hci)] at h7))
  · rintro l a w hc h0 ⟨hz, ht, h⟩
    rcases h with ⟨_, h⟩ | ⟨h1, _⟩
    · exact h
    · exfalso
      -- the first that is not done is ready
      have hall : ∀ n, n < ops.size → l.getD n false = true := by
        intro n
        induction n using Nat.strongRecOn with
        | _ n ih =>
          intro hn
          cases hh : l.getD n false with
          | true => rfl
          | false =>
            exfalso
            have hlo := hlow n hn
            cases ho : ops[n]? with
            | none => simp [ho] at hlo
            | some o =>
              simp only [ho, Array.all_eq_true, Bool.or_eq_true, Bool.not_eq_true', decide_eq_true_eq] at hlo
              have hr : n ∈ Region.ready .any ops l := mem_ready.2 ⟨by
                have hz' : n < l.size := by omega
                simp [hz'] at hh ⊢; exact hh, o, ho, fun e he hb => by
                obtain ⟨x, hx, rfl⟩ := Array.mem_iff_getElem.1 he
                rcases hlo x hx with h2 | h2
                · rw [h2] at hb; cases hb
                · exact ih _ h2 (by omega)⟩
              rw [h0] at hr
              cases hr
      rw [hall fin hf] at h1
      cases h1
  · cases hh : l.getD fin false with
    | false => rfl
    | true => exact absurd ((htk fin).1 hh) hft
/-- THE BEGINNING. -/
theorem reg_invC {id : Nat} {a : Act} {w : World} {l : List Oper} (S : World → Prop) (fin : Nat) (tk : List Nat) (E : List (Nat × List Nat)) (hm : P.follows .mixedOrders = true) (hs : Region.noSelect l.toArray = true) (hp : permTk l.toArray fin tk (Array.replicate l.toArray.size false) = true) (hi : permC C B l.toArray fin tk E = true)
    (ht : (takenB l.toArray.size tk && (tk.all fun k => decide (k < l.toArray.size)) && decide ((setAll (Array.replicate l.toArray.size false) tk).toList.countP (fun b => !b) + tk.length = l.toArray.size)) = true)
    (h : wpTk P l.toArray S (InvC C B P l.toArray (NoPanic Q) S fin E) tk a w.drew) : (Code.region id l.toArray true).wp P Q a w := by
  simp only [Bool.and_eq_true, decide_eq_true_eq, takenB, List.all_eq_true, List.mem_range, beq_iff_eq] at ht
  obtain ⟨⟨ht1, ht2⟩, ht3⟩ := ht
  have hc : Closed l.toArray (Array.replicate l.toArray.size false) := fun k o _ hk => by
    exfalso
    rw [Array.getD_eq_getD_getElem?, Array.getElem?_replicate] at hk
    split at hk <;> cases hk
  have h2 := wpAnyF_of_tk (Q := NoPanic Q) (fin := fin) (m := (setAll (Array.replicate l.toArray.size false) tk).toList.countP (fun b => !b)) hs (fun _ _ _ _ _ h => h) tk _ a _ hp hc (fun a w hc' hR => wpAnyF_of_invC hi hc' (Nat.le_refl _) (by rw [setAll_size]; simp) (fun k => by
    by_cases hk : k < l.toArray.size
    · rw [ht1 k hk]; simp
    · constructor
      · intro hh
        rw [Array.getD_eq_getD_getElem?, Array.getElem?_eq_none (by rw [setAll_size]; simpa using hk)] at hh
        cases hh
      · intro hh; exact absurd (ht2 k hh) hk) hR) h
  rw [ht3] at h2
  exact wp_region_noPanic (wp_region_any hm (wpAny_of_F _ _ _ _ h2))
theorem invC_op {i : Nat} {a : Act} {w : World} {o : Oper} {A : (Nat → Value) → Act} {Pd : Nat → Value → World → Prop} {g : Nat → Value} (ho : ops[i]? = some o) (hg : o.guard = none)
    (h : ∀ K : Act → World → Prop, (∀ v w', S w' → Pd i v w' → (∀ j u, j ≠ i → (j, i) ∉ C → (j, i) ∉ B → Pd j u w → Pd j u w') → K (A (upG g i v)) w') → o.wp P a w K Q) : wpOp P ops Q i (fun a' w' => S w' ∧ ∃ v, a' = A (upG g i v) ∧ Pd i v w' ∧ ∀ j u, j ≠ i → (j, i) ∉ C → (j, i) ∉ B → Pd j u w → Pd j u w') a w := by
  unfold wpOp
  simp only [ho, Region.wanted, hg, if_true]
  exact .inl (h _ fun v w' h1 h2 h3 => ⟨h1, v, rfl, h2, h3⟩)
end

end Go.Proofs.YtahfpadaoobkfaaGreatDoor

/-
  A region that draws its order (Reg5.lean), in one order: what is taken early and waited for by the last store, what is taken early and waited for by nothing (its value hangs on no world), what must come.
-/
namespace Go.Proofs.YtahfpadaoobkfaaGreatDoor

section
variable {P : Program} {ops : Array Oper} {Q : Exit → Act → World → Prop} {S : World → Prop} {fin : Nat}

theorem wpAnyF_free {i : Nat} {oi : Oper} {v : Value} (hi : ops[i]? = some oi) (hne : i ≠ fin) (hsel : ∀ (j : Nat) (o : Oper) cs b, ops[j]? = some o → o.op ≠ .select cs b)
    (hQ : ∀ c a w, Q (.panic c) (a.put oi.dst v) w → Q (.panic c) a w) :
    ∀ (fuel : Nat) (listed : Array Bool) (a : Act) (w : World), Closed ops listed →
      (∀ j oj, ops[j]? = some oj → j ≠ i → listed.getD j true = false → (∀ e ∈ oj.after, Region.binds .any e = true → e.on ≠ i) → oi.apart ops oj = true) →
      i ∈ Region.ready .any ops listed → YieldsIf P ops (fun _ => True) oi v a → (listed.getD fin false = true ∨ S w) →
      wpAnyF P ops Q S fin fuel (listed.setIfInBounds i true) (a.put oi.dst v) w → wpAnyF P ops Q S fin (fuel + 1) listed a w := by
  intro fuel
  induction fuel with
  | zero =>
    intro listed a w _ _ hr hy hS H
    refine ⟨fun h => (by rw [h] at hr; cases hr), fun j hj => ?_⟩
    by_cases hji : j = i
    · subst hji; exact hy.wpOp (S := fun _ => True) hi trivial ⟨hS.imp (fun h => by rw [getD_set_ne false hne]; exact h) id, H⟩
    · have := ready_mono hj hji
      rw [H.1] at this
      cases this
  | succ fuel ih =>
    intro listed a w hc hfree hr hy hS H
    refine ⟨fun h => (by rw [h] at hr; cases hr), fun j hj => ?_⟩
    have hiun : ∀ {l : Array Bool}, i ∈ Region.ready .any ops l → l.getD i false = true → False := fun h0 h1 => by
      have h2 := (mem_ready.1 h0).1
      rename_i l
      rcases Nat.lt_or_ge i l.size with h' | h'
      · simp [h'] at h1 h2; rw [h2] at h1; cases h1
      · simp [Array.getElem?_eq_none h'] at h1
    by_cases hji : j = i
    · subst hji; exact hy.wpOp (S := fun _ => True) hi trivial ⟨hS.imp (fun h => by rw [getD_set_ne false hne]; exact h) id, H⟩
    · have h1 := H.2 j (ready_mono hj hji)
      obtain ⟨hjun, oj, hoj, hall⟩ := mem_ready.1 hj
      have hnot : ∀ e ∈ oj.after, Region.binds .any e = true → e.on ≠ i := fun e he hb heq => hiun hr (heq ▸ hall e he hb)
      have h2 := wpOp_putIf hoj (hfree j oj hoj hji hjun hnot) (fun cs b => hsel i oi cs b hi) (fun cs b => hsel j oj cs b hoj) hQ hy h1
      have hfree' : ∀ k ok, ops[k]? = some ok → k ≠ i → (listed.setIfInBounds j true).getD k true = false →
          (∀ e ∈ ok.after, Region.binds .any e = true → e.on ≠ i) → oi.apart ops ok = true := fun k ok hk hki hun hno => by
        refine hfree k ok hk hki ?_ hno
        by_cases hjk : j = k
        · subst hjk; exact hjun
        · rw [getD_set_ne true hjk] at hun; exact hun
      have hr' := ready_mono hr (Ne.symm hji)
      have hc' := closed_set hc hj
      refine wpOp_mono (fun a' w' h3 => ?_) h2
      have hS' : (listed.setIfInBounds j true).getD fin false = true ∨ S w' := by
        rcases h3.2.1 with h4 | h4
        · rw [Array.setIfInBounds_comm _ _ (Ne.symm hji), getD_set_ne false hne] at h4
          exact .inl h4
        · exact .inr h4
      refine ⟨hS', ih (listed.setIfInBounds j true) a' w' hc' hfree' hr' h3.1 hS' ?_⟩
      rw [Array.setIfInBounds_comm _ _ hji]
      exact h3.2.2

inductive OrdN where
  | take (i : Nat)
  | free (i : Nat)
  | one (i : Nat)
def permN (ops : Array Oper) (fin : Nat) : List OrdN → Array Bool → Bool
  | [], l => (Region.ready .any ops l).isEmpty
  | .take i :: t, l => (match ops[i]? with
      | none => false
      | some _ => decide (i < l.size) && Region.free .any ops l i && (Region.ready .any ops l).contains i && waitsB ops ops.size i fin) && permN ops fin t (l.setIfInBounds i true)
  | .free i :: t, l => (match ops[i]? with
      | none => false
      | some _ => decide (i < l.size) && Region.free .any ops l i && (Region.ready .any ops l).contains i && !(i == fin)) && permN ops fin t (l.setIfInBounds i true)
  | .one i :: t, l => Region.ready .any ops l == [i] && decide (i < l.size) && permN ops fin t (l.setIfInBounds i true)
def wpN (P : Program) (ops : Array Oper) (Q : Exit → Act → World → Prop) (S : World → Prop) (fin : Nat) : List OrdN → Act → World → Prop
  | [], a, w => Q .normal a w
  | .take i :: t, a, w => match ops[i]? with
    | none => False
    | some o => ∃ v, YieldsIf P ops S o v a ∧ S w ∧ wpN P ops Q S fin t (a.put o.dst v) w
  | .free i :: t, a, w => match ops[i]? with
    | none => False
    | some o => ∃ v, YieldsIf P ops (fun _ => True) o v a ∧ S w ∧ wpN P ops Q S fin t (a.put o.dst v) w
  | .one i :: t, a, w => wpOp P ops Q i (fun a' w' => (i = fin ∨ S w') ∧ wpN P ops Q S fin t a' w') a w
theorem wpAnyF_of_n (hs : Region.noSelect ops = true) (hQ : ∀ (d : Option Tmp) (v : Value) c a w, Q (.panic c) (a.put d v) w → Q (.panic c) a w) :
    ∀ (t : List OrdN) (l : Array Bool) (a : Act) (w : World), permN ops fin t l = true → Closed ops l → wpN P ops Q S fin t a w → wpAnyF P ops Q S fin t.length l a w
  | [], l, a, w, hp, _, h => by
    simp only [permN, List.isEmpty_iff] at hp
    exact ⟨hp, h⟩
  | .take i :: t, l, a, w, hp, hc, h => by
    simp only [permN, Bool.and_eq_true] at hp
    obtain ⟨h1, h2⟩ := hp
    cases ho : ops[i]? with
    | none => simp [ho] at h1
    | some o =>
      simp only [ho, Bool.and_eq_true, decide_eq_true_eq] at h1
      obtain ⟨⟨⟨_, hfr⟩, hrd⟩, hw⟩ := h1
      simp only [wpN, ho] at h
      obtain ⟨v, hy, hS, h3⟩ := h
      have hr : i ∈ Region.ready .any ops l := by simpa using hrd
      exact wpAnyF_first ho (Region.noSelect_spec hs) (hQ o.dst v) hw _ l a w hc (Region.free_spec ho hfr) hr hy hS (wpAnyF_of_n hs hQ t _ _ w h2 (closed_set hc hr) h3)
  | .free i :: t, l, a, w, hp, hc, h => by
    simp only [permN, Bool.and_eq_true] at hp
    obtain ⟨h1, h2⟩ := hp
    cases ho : ops[i]? with
    | none => simp [ho] at h1
    | some o =>
      simp only [ho, Bool.and_eq_true, decide_eq_true_eq, Bool.not_eq_true', beq_eq_false_iff_ne] at h1
      obtain ⟨⟨⟨_, hfr⟩, hrd⟩, hw⟩ := h1
      simp only [wpN, ho] at h
      obtain ⟨v, hy, hS, h3⟩ := h
      have hr : i ∈ Region.ready .any ops l := by simpa using hrd
      exact wpAnyF_free ho hw (Region.noSelect_spec hs) (hQ o.dst v) _ l a w hc (Region.free_spec ho hfr) hr hy (.inr hS) (wpAnyF_of_n hs hQ t _ _ w h2 (closed_set hc hr) h3)
  | .one i :: t, l, a, w, hp, hc, h => by
    simp only [permN, Bool.and_eq_true, beq_iff_eq, decide_eq_true_eq] at hp
    obtain ⟨⟨h1, h2⟩, h3⟩ := hp
    refine ⟨fun h0 => (by rw [h0] at h1; cases h1), fun j hj => ?_⟩
    have hj' := hj
    rw [h1] at hj
    simp only [List.mem_singleton] at hj
    subst hj
    refine wpOp_mono (fun a' w' hh => ⟨?_, wpAnyF_of_n hs hQ t _ a' w' h3 (closed_set hc hj') hh.2⟩) h
    rcases hh.1 with h4 | h4
    · subst h4; exact .inl (by simp [h2])
    · exact .inr h4
/-- THE BEGINNING. -/
theorem reg_n {id : Nat} {a : Act} {w : World} {l : List Oper} (S : World → Prop) (fin : Nat) (t : List OrdN) (hm : P.follows .mixedOrders = true) (hs : Region.noSelect l.toArray = true) (hp : permN l.toArray fin t (Array.replicate l.toArray.size false) = true) (hl : t.length = l.toArray.size)
    (h : wpN P l.toArray (NoPanic Q) S fin t a w.drew) : (Code.region id l.toArray true).wp P Q a w := by
  have hc : Closed l.toArray (Array.replicate l.toArray.size false) := fun k o _ hk => by
    exfalso
    rw [Array.getD_eq_getD_getElem?, Array.getElem?_replicate] at hk
    split at hk <;> cases hk
  have h2 := wpAnyF_of_n hs (fun _ _ _ _ _ h => h) t _ a _ hp hc h
  rw [hl] at h2
  exact wp_region_noPanic (wp_region_any hm (wpAny_of_F _ _ _ _ h2))
theorem n_take {k : Nat} {d : Tmp} {t : List OrdN} {a : Act} {w : World} {o : Oper} {v : Value} (ho : ops[k]? = some o) (hod : o.dst = some d) (hg : o.guard = none) (hS : S w)
    (hy : ∀ w, S w → (execOp a.eval o).run P w = .ok (.value v) w) (h : wpN P ops Q S fin t { a with tmps := a.tmps.setIfInBounds d v } w) : wpN P ops Q S fin (.take k :: t) a w := by
  simp only [wpN, ho]
  exact ⟨v, .inl ⟨by simp [Region.wanted, hg], hy⟩, hS, by rw [put_some hod]; exact h⟩
theorem n_free {k : Nat} {d : Tmp} {t : List OrdN} {a : Act} {w : World} {o : Oper} {v : Value} (ho : ops[k]? = some o) (hod : o.dst = some d) (hg : o.guard = none) (hS : S w)
    (hy : ∀ w, (execOp a.eval o).run P w = .ok (.value v) w) (h : wpN P ops Q S fin t { a with tmps := a.tmps.setIfInBounds d v } w) : wpN P ops Q S fin (.free k :: t) a w := by
  simp only [wpN, ho]
  exact ⟨v, .inl ⟨by simp [Region.wanted, hg], fun w _ => hy w⟩, hS, by rw [put_some hod]; exact h⟩
theorem n_one {i : Nat} {t : List OrdN} {a : Act} {w : World} {o : Oper} (ho : ops[i]? = some o) (hg : o.guard = none)
    (h : ∀ K : Act → World → Prop, (∀ a' w', S w' → wpN P ops Q S fin t a' w' → K a' w') → o.wp P a w K Q) : wpN P ops Q S fin (.one i :: t) a w := by
  simp only [wpN]
  unfold wpOp
  simp only [ho, Region.wanted, hg, if_true]
  exact .inl (h _ fun a' w' h1 h2 => ⟨.inr h1, h2⟩)
theorem n_last {a : Act} {w : World} {o : Oper} (ho : ops[fin]? = some o) (hg : o.guard = none)
    (h : ∀ K : Act → World → Prop, (∀ a' w', Q .normal a' w' → K a' w') → o.wp P a w K Q) : wpN P ops Q S fin [.one fin] a w := by
  simp only [wpN]
  unfold wpOp
  simp only [ho, Region.wanted, hg, if_true]
  exact .inl (h _ fun a' w' h2 => ⟨.inl trivial, h2⟩)
end

end Go.Proofs.YtahfpadaoobkfaaGreatDoor
