/-
  statute: proves.
-/
import Derived.Test.YtfidioedjmjddaaStR4
namespace Go.Proofs.Ytfidioedjmjddaa
open Go.RowKit Go.Lib Go.Maps

/-- The number of the last finding among the first k, or -1. -/
def lastTo (l : List Fd) (k : Nat) : Int := ((⟨-1, false, 0, 0⟩ : Fd) :: l).getD k default |>.says
theorem lastTo_zero (l : List Fd) : lastTo l 0 = -1 := rfl
theorem lastTo_succ (l : List Fd) (k : Nat) (h : k < l.length) : lastTo l (k + 1) = l[k].says := by simp [lastTo, h]
theorem lastTo_end (l : List Fd) : lastTo l l.length = lastOf l := by
  cases l with
  | nil => rfl
  | cons a l => simp [lastTo, lastOf, List.getLast?_eq_getElem?]
theorem holds_end (l : List Fd) (h : 0 < l.length) : (l.getLast?.map (·.holds)).getD false = (l[l.length - 1]).holds := by
  rw [List.getLast?_eq_getElem?, List.getElem?_eq_getElem (by omega)]
  rfl

set_option maxRecDepth 100000 in
set_option maxHeartbeats 8000000 in
theorem proves_c (J : Jn) (n : Int) (h : Bool) (vl : Value) (l : List Fd) (w : World) (hJ : JS J w) (hs : Sl w vl l.length (l.flatMap fdC)) :
    Calls Try.prog 25 #[.pointer (some ⟨J.bj, 0, none⟩), .int .i64 n, .bool h, vl] w fun e w' => e = .returned (.bool (provesB J.c J.fs J.cs n h l)) ∧ Fr [] w w' := by
  obtain ⟨a, cap, rfl⟩ := hs.val
  have hlen := hs.len
  have HJ := Lib.hid hJ; have HS := Lib.hid hs; clear hJ hs
  obtain ⟨r, hr⟩ : ∃ r, r = provesB J.c J.fs J.cs n h l := ⟨_, rfl⟩
  rw [← hr]
  have HR := Lib.hid hr; clear hr
  have HRf : Hid (provesGo J.c J.fs J.cs l (-1) l = false → r = false) := Lib.hid fun hf => by rw [HR.out, provesB, hf]; rfl
  go_enter Try.func25, Try.ntmps25
  go_wp2_with fail
  go_loopw [9, 14] (fun la i wr => ∃ k : Nat, k ≤ l.length ∧ i = .int .i64 k ∧ la = .int .i64 (lastTo l k) ∧ Hid (Fr [] w wr) ∧ Hid (provesGo J.c J.fs J.cs l (-1) l = provesGo J.c J.fs J.cs l (lastTo l k) (l.drop k)) ∧ Hid (-1 ≤ lastTo l k ∧ lastTo l k ≤ 19)) (fun _ i _ => l.length - (intOf i).toNat)
  case atStart => exact ⟨0, Nat.zero_le _, rfl, rfl, Lib.hid (Fr.refl _ _), Lib.hid rfl, Lib.hid ⟨by simp [lastTo], by simp [lastTo]⟩⟩
  case round =>
    obtain ⟨k, hk, rfl, rfl, HF, HG, HB⟩ := hrel
    by_cases hlt : k < l.length
    · obtain ⟨b, off, ha, hc⟩ := (HS.out.same HF.out).at_ (by omega)
      subst ha
      have d0 := hc (k * 4 + 0) _ ((flat_get (enc := fdC) (k := 4) (fun _ => rfl) l k hlt 0 (by omega)).trans rfl)
      have d1 := hc (k * 4 + 1) _ ((flat_get (enc := fdC) (k := 4) (fun _ => rfl) l k hlt 1 (by omega)).trans rfl)
      have d2 := hc (k * 4 + 2) _ ((flat_get (enc := fdC) (k := 4) (fun _ => rfl) l k hlt 2 (by omega)).trans rfl)
      have d3 := hc (k * 4 + 3) _ ((flat_get (enc := fdC) (k := 4) (fun _ => rfl) l k hlt 3 (by omega)).trans rfl)
      simp only [Nat.add_zero, ← Nat.add_assoc] at d0 d1 d2 d3
      have hst : provesGo J.c J.fs J.cs l (lastTo l k) (l.drop k) = (isInB l[k].says (lastTo l k + 1) 19 && rightB J.c J.fs J.cs l[k] l && provesGo J.c J.fs J.cs l l[k].says (l.drop (k + 1))) := by
        rw [List.drop_eq_getElem_cons hlt]; rfl
      have hls := lastTo_succ l k hlt
      have CR : Hid (∀ W, Fr [] w W → Calls Try.prog 40 #[.pointer (some ⟨J.bj, 0, none⟩), fdV l[k], .slice (some ⟨b, off, none⟩) l.length cap] W fun e w' => e = .returned (.bool (rightB J.c J.fs J.cs l[k] l)) ∧ Fr [] W w') := Lib.hid fun W hf => right_c J l[k] _ l W (HJ.out.same hf) (HS.out.same hf)
      have HST := Lib.hid hst; have HLS := Lib.hid hls
      clear hst hls hc
      generalize l[k] = x at *
      generalize hla : lastTo l k = la at *
      have hb1 := HB.out.1
      have hb2 := HB.out.2
      clear hla
      obtain ⟨x0, x1, x2, x3⟩ := x
      simp only [fdV] at d0 d1 d2 d3 CR HST HLS
      have FA := Lib.hid (HF.out.trans (Fr.alloc [] wr (.cells #[.int .i64 x0, .bool x1, .int .i64 x2, .int .i64 x3] 58)))
      go_wp2_with fail
      refine (isIn_c _ _ _ _).mono ?_
      rintro e w1 ⟨rfl, rfl⟩
      cases hi : isInB x0 (la + 1) 19
      · have hf : r = false := HRf.out (by rw [HG.out, HST.out, hi]; rfl)
        go_wp2_with fail
        go_ret
        exact ⟨by rw [hf]; rfl, FA.out⟩
      · have hxb := isInB_iff.1 hi
        go_wp2_with fail
        refine (CR.out _ FA.out).mono ?_
        rintro e w2 ⟨rfl, f2⟩
        have K2 := f2.keep (heap_alloc_new wr (.cells #[.int .i64 x0, .bool x1, .int .i64 x2, .int .i64 x3] 58)) (by simp)
        have k0 : w2.cell? ⟨wr.heap.size, 0, none⟩ = some (.int .i64 x0) := cell_of_blk K2 0
        have F2 := Lib.hid (FA.out.trans f2)
        clear f2 K2
        cases hrt : rightB J.c J.fs J.cs ⟨x0, x1, x2, x3⟩ l
        · have hf : r = false := HRf.out (by rw [HG.out, HST.out, hi, hrt]; rfl)
          go_wp2_with fail
          go_ret
          exact ⟨by rw [hf]; rfl, F2.out⟩
        · have HG2 : Hid (provesGo J.c J.fs J.cs l (-1) l = provesGo J.c J.fs J.cs l x0 (l.drop (k + 1))) := Lib.hid (by rw [HG.out, HST.out, hi, hrt]; rfl)
          clear hi hrt
          go_wp2_with fail
          go_roundw
          case rel => exact ⟨k + 1, by omega, by go_num, by rw [HLS.out], F2, Lib.hid (by rw [HLS.out]; exact HG2.out), Lib.hid (by rw [HLS.out]; omega)⟩
          case measure => simp [intOf]; omega
    · obtain rfl : k = l.length := by omega
      have hg1 : provesGo J.c J.fs J.cs l (-1) l = true := by rw [HG.out, List.drop_length]; rfl
      have hr := HR.out
      rw [provesB, hg1, Bool.true_and] at hr
      by_cases h0 : 0 < l.length
      · have hne : decide (l ≠ []) = true := by
          cases l with
          | nil => simp at h0
          | cons a l => simp
        rw [hne, Bool.true_and, holds_end l h0, ← lastTo_end] at hr
        obtain ⟨b, off, ha, hc⟩ := (HS.out.same HF.out).at_ h0
        subst ha
        have d1 := hc ((l.length - 1) * 4 + 1) _ ((flat_get (enc := fdC) (k := 4) (fun _ => rfl) l (l.length - 1) (by omega) 1 (by omega)).trans rfl)
        simp only [← Nat.add_assoc] at d1
        have HRR := Lib.hid hr
        clear hr hg1 hc hne
        generalize (l[l.length - 1]).holds = hh at *
        generalize lastTo l l.length = la at *
        have hi1 : ((l.length : Int) - 1).toNat = l.length - 1 := by omega
        have hge : (0 : Int) ≤ (l.length : Int) - 1 := by omega
        by_cases hla : la = n
        · subst hla
          go_wp2_with fail
          go_ret
          exact ⟨by rw [HRR.out]; simp, HF.out⟩
        · go_wp2_with fail
          go_ret
          exact ⟨by rw [HRR.out]; simp [hla], HF.out⟩
      · have hl0 : l = [] := List.eq_nil_of_length_eq_zero (by omega)
        have hf : r = false := by rw [hr, hl0]; rfl
        have hz : l.length = 0 := by omega
        clear hr
        go_wp2_with fail
        go_ret
        exact ⟨by rw [hf]; rfl, HF.out⟩

end Go.Proofs.Ytfidioedjmjddaa
