/-
  filter: the iterator over what a decision claims.
-/
import Derived.RangeFuncNested
import Derived.RangeFuncBound
import Derived.RangeFuncCalls
import Derived.RangeFuncLeaves
import Derived.Shelf.Abstract
import Derived.Shelf.RegionOpen
import Derived.OwnWalkIn
import Derived.TacticsInMore
import Derived.LoopNIn
import Derived.LoopIn
import Derived.Test.YtkopnooajikpmaaGreatQFlW10
import Derived.Test.YtkopnooajikpmaaGreatQPl
import Derived.Test.YtkopnooajikpmaaGreatQRg
namespace Go.Proofs.YtkopnooajikpmaaGreat
open Go.RowKit Go.Shelf Go.Lib

attribute [local go_sem] Oper.semAt_some

/-- How a claim is handed on. -/
abbrev clmE (m : Clm) : Array Value := #[.agg #[.int .i64 m.x.kind, .int .i64 m.x.lo, .int .i64 m.x.hi, .bool m.x.neg, .bool m.want], .bool m.ok]

/-- What the iterator reads. -/
structure ClAt (D : De) (bx bp : Nat) (act rule : Int) (vF vP : Value) (F : List Int) (w : World) : Prop where
  de : DeAt D w
  box : w.heap[bx]? = some (.cells #[.int .i64 act, .int .i64 rule, vF, vP] 62 (0, 0))
  ptr : w.heap[bp]? = some (.cells #[.pointer (some ⟨D.bd, 0, none⟩)] 137 (0, 0))
  fails : IntsAt w vF F
theorem ClAt.same {D : De} {bx bp : Nat} {act rule : Int} {vF vP : Value} {F : List Int} {w w' : World} (h : ClAt D bx bp act rule vF vP F w) (hf : Fr [] w w') : ClAt D bx bp act rule vF vP F w' := ⟨h.de.same hf, hf.keep h.box (by simp), hf.keep h.ptr (by simp), h.fails.same hf⟩

/-- What a round keeps: what lies below n, but one block. -/
structure KpB (n bq : Nat) (A B : World) : Prop where
  os : B.os = A.os
  tape : B.tape = A.tape
  output : B.output = A.output
  size : A.heap.size ≤ B.heap.size
  block : ∀ k, k < n → k ≠ bq → B.heap[k]? = A.heap[k]?
theorem KpB.trans {n bq : Nat} {A B C : World} (h : KpB n bq A B) (k : KpB n bq B C) : KpB n bq A C := ⟨k.os.trans h.os, k.tape.trans h.tape, k.output.trans h.output, Nat.le_trans h.size k.size, fun i hi hn => (k.block i hi hn).trans (h.block i hi hn)⟩
theorem KpB.of {n bq : Nat} {A B : World} (h : Fr [bq] A B) (hn : n ≤ A.heap.size) : KpB n bq A B := ⟨h.os, h.tape, h.output, h.size, fun k hk hb => h.block k (Nat.lt_of_lt_of_le hk hn) (by simpa using hb)⟩
theorem KpB.fr {bq : Nat} {w A B : World} (h : Fr [bq] w A) (k : KpB w.heap.size bq A B) : Fr [bq] w B := ⟨k.os.trans h.os, k.tape.trans h.tape, k.output.trans h.output, Nat.le_trans h.size k.size, fun i hi hn => (k.block i hi (by simpa using hn)).trans (h.block i hi hn)⟩

theorem claimsF_nil (rs : List Ru) (E : List Clm) : claimsF rs [] E = E := by cases rs <;> rfl

set_option maxRecDepth 100000 in
set_option maxHeartbeats 4000000 in
theorem claims1_in (n : Nat) (l : Nat) (D : De) (bx bp : Nat) (act rule : Int) (vF vP : Value) (F : List Int) (x : Dn) (hxF : x.fails = F) (hxr : x.rule = rule) (W0 : World) (bq : Nat) (h : ∀ W, Fr [bq] W0 W → ClAt D bx bp act rule vF vP F W) (hFl : F.length ≤ D.ys.length) (hr : rule = -1 ∨ isInB rule 0 (D.ys.length - 1) = true)
    (J Jx : List Clm → World → Prop)
    (hY : ∀ pre m W, J pre W → pre ++ [m] <+: claimsL D.f x → YieldAt Fence.wide (n - 1) Tryz.prog l (clmE m) W fun e W' =>
      (e = .returned (.bool true) ∧ J (pre ++ [m]) W' ∧ KpB W0.heap.size bq W W') ∨ (e = .returned (.bool false) ∧ Jx (pre ++ [m]) W'))
    (hJ : ∀ s A B, J s A → Fr [] A B → J s B)
    (W : World) (hW : Below W0.heap.size W0 W) (h0 : J [] W) :
    CallsIn Fence.wide n Tryz.prog 107 #[.func (.yield l) #[] #[], .pointer (some ⟨bx, 0, none⟩), .pointer (some ⟨bp, 0, none⟩)] W fun e W' => (∃ v, e = .returned v) ∧
      ((∃ ys, ys = claimsL D.f x ∧ J ys W') ∨ (∃ pre, pre <+: claimsL D.f x ∧ Jx pre W')) := by
  have HC := Lib.hid h
  have HR := Lib.hid hr
  have HY := Lib.hid hY
  have HJ := Lib.hid hJ
  have HL : Hid (claimsL D.f x = claimsF D.f.rus F (claimsR D.f rule)) := Lib.hid (by unfold claimsL; rw [hxF, hxr])
  have HE := Lib.hid (h W0 (Fr.refl _ _)).de.fl.eq
  have HW := Lib.hid ((Fr.of_below [] hW).mono (fp2 := [bq]) (by simp))
  have HJ0 := Lib.hid h0
  obtain ⟨aF, pF, rfl⟩ := (h W0 (Fr.refl _ _)).fails.val
  have hFn := (h W0 (Fr.refl _ _)).fails.len
  clear h hr hY hJ hxF hxr hW h0
  refine callsIn_of_wp Tryz.func107 rfl trivial ?_ rfl
  simp only [Tryz.ntmps107, List.size_toArray, List.length_cons, List.length_nil, Nat.reduceAdd, Nat.reduceSub, Array.replicate_succ, Array.replicate_zero, List.push_toArray, List.append_toArray, List.nil_append, List.cons_append]
  have B0 := (HC.out _ HW.out).box
  have c2 : W.cell? ⟨bx, 2, none⟩ = some (.slice aF F.length pF) := cell_of_blk B0 2
  clear B0
  gi_wp2
  clear c2
  gi_loopw [12] (fun s wr => ∃ (i : Nat) (pre : List Clm), i ≤ F.length ∧ s = .int .i64 i ∧ pre.length = i ∧ Hid (Fr [bq] W0 wr) ∧ Hid (J pre wr) ∧ Hid (claimsL D.f x = pre ++ claimsF (D.f.rus.drop i) (F.drop i) (claimsR D.f rule))) (fun s _ => F.length - (intOf s).toNat)
  case atStart => exact ⟨0, [], Nat.zero_le _, rfl, rfl, HW, HJ0, Lib.hid (by rw [HL.out]; rfl)⟩
  case round =>
    obtain ⟨i, pre, hi, rfl, hpi, HF, HP, HQ⟩ := hrel
    have HCr := Lib.hid (HC.out _ HF.out)
    have HPI := Lib.hid hpi
    clear hpi
    by_cases hlt : i < F.length
    · have hiy : i < D.ys.length := by omega
      obtain ⟨fb, fo, hv, hcf⟩ := HCr.out.fails.at_ (by omega)
      cases hv
      have e0 := hcf i (.int .i64 F[i]) (by simp [intC, hlt])
      obtain ⟨rb, ro, rcap, hv, hrc⟩ := ruRow_cells HCr.out.de.fl.sl i hiy
      have e1 := hrc 0 _ rfl
      have p0 := cell_of_blk HCr.out.ptr 0
      have p1 := cell_of_blk HCr.out.de.str 0
      rw [hv] at p1
      simp only [Nat.add_zero] at e1
      obtain ⟨al, pl, hvl⟩ := (HCr.out.de.fl.cds _ (List.getElem_mem hiy)).val
      have HCD := Lib.hid (HCr.out.de.fl.cds _ (List.getElem_mem hiy))
      have hir : i < D.f.rus.length := by rw [HE.out, List.length_map]; exact hiy
      have hrx : D.f.rus[i] = D.ys[i].x := by simp [HE.out]
      have HQ2 : Hid (claimsL D.f x = pre ++ (if isInB F[i] 0 (D.ys[i].x.cds.length - 1) then ⟨D.ys[i].x.cds.getD F[i].toNat default, false, true⟩ :: claimsF (D.f.rus.drop (i + 1)) (F.drop (i + 1)) (claimsR D.f rule) else [noClm])) := Lib.hid (by
        rw [HQ.out, List.drop_eq_getElem_cons hlt, List.drop_eq_getElem_cons hir, claimsF, hrx])
      rw [hvl] at HCD
      have HVL := Lib.hid hvl
      have HRV := Lib.hid hv
      generalize F[i] = fk at *
      generalize D.ys[i] = y at *
      obtain ⟨⟨cl, act'⟩, vl⟩ := y
      simp only at hvl HCD HQ2 e1
      subst hvl
      have hcl := HCD.out.len
      clear hcf hrc hv hrx hir HQ
      cases hin : isInB fk 0 ((cl.length : Int) - 1) with
      | false =>
        rw [hin] at HQ2
        have HIN := Lib.hid hin
        have hcl1 : claimsL D.f x = pre ++ [noClm] := HQ2.out
        obtain ⟨fn, tmps, assign, body, hy, hR⟩ := HY.out pre noClm wr HP.out (by rw [hcl1]; exact List.prefix_refl _)
        dsimp only [clmE, noClm] at hy
        have HRR := Lib.hid hR
        have HCL := Lib.hid hcl1
        clear hin hR hcl1
        gi_wp2
        refine ⟨trivial, fun hh => (by cases hh), ?_⟩
        refine (callsIn_wide.2 (fIsIn_c _ _ _ _)).mono ?_
        rintro e w' ⟨rfl, rfl⟩
        rw [HIN.out]
        gi_wp2
        refine ⟨fun hh => (by cases hh), ?_⟩
        refine HRR.out.mono ?_
        rintro e W3 (⟨rfl, hJ3, hk3⟩ | ⟨rfl, hJx3⟩)
        · gi_wp2
          refine bodyPost_ret (results_none rfl _ _ _) rfl ?_
          exact ⟨⟨_, rfl⟩, .inl ⟨_, HCL.out.symm, hJ3⟩⟩
        · gi_wp2
          refine bodyPost_ret (results_none rfl _ _ _) rfl ?_
          exact ⟨⟨_, rfl⟩, .inr ⟨_, by rw [HCL.out]; exact List.prefix_refl _, hJx3⟩⟩
      | true =>
        rw [hin] at HQ2
        simp only [if_true] at HQ2
        have HIN := Lib.hid hin
        have hb := isInB_iff.1 hin
        obtain ⟨k, rfl⟩ := Int.eq_ofNat_of_zero_le hb.1
        have hk : k < cl.length := by omega
        rw [Int.toNat_natCast, List.getD_eq_getElem?_getD, List.getElem?_eq_getElem hk, Option.getD_some] at HQ2
        obtain ⟨cb, co, cc, hv, hc⟩ := cdRow_cells HCD.out k hk
        cases hv
        have q0 := hc 0 _ rfl
        have q1 := hc 1 _ rfl
        have q2 := hc 2 _ rfl
        have q3 := hc 3 _ rfl
        simp only [Nat.add_zero] at q0 q1 q2 q3
        obtain ⟨fn, tmps, assign, body, hy, hR⟩ := HY.out pre ⟨cl[k], false, true⟩ wr HP.out (by rw [HQ2.out]; exact ⟨claimsF (D.f.rus.drop (i + 1)) (F.drop (i + 1)) (claimsR D.f rule), by simp⟩)
        generalize cl[k] = y at *
        obtain ⟨yk, yl, yh, yn⟩ := y
        simp only at q0 q1 q2 q3
        dsimp only [clmE] at hy
        have HRR := Lib.hid hR
        clear hin hR hc hb
        gi_wp2
        refine ⟨trivial, fun hh => (by cases hh), ?_⟩
        refine (callsIn_wide.2 (fIsIn_c _ _ _ _)).mono ?_
        rintro e w' ⟨rfl, rfl⟩
        rw [HIN.out]
        gi_wp2
        refine ⟨fun hh => (by cases hh), ?_⟩
        refine HRR.out.mono ?_
        rintro e W3 (⟨rfl, hJ3, hk3⟩ | ⟨rfl, hJx3⟩)
        · have HF3 := Lib.hid (KpB.fr HF.out hk3)
          have HJ3 := Lib.hid hJ3
          clear hk3 hJ3 q0 q1 q2 q3 e0 e1 p0 p1
          gi_wp2
          go_roundw
          case rel => exact ⟨i + 1, _, by omega, by go_num, by rw [List.length_append, HPI.out]; rfl, HF3, HJ3, Lib.hid (by rw [HQ2.out, List.append_assoc]; rfl)⟩
          case measure => simp [intOf]; omega
        · gi_wp2
          refine bodyPost_ret (results_none rfl _ _ _) rfl ?_
          exact ⟨⟨_, rfl⟩, .inr ⟨_, by rw [HQ2.out]; exact ⟨claimsF (D.f.rus.drop (i + 1)) (F.drop (i + 1)) (claimsR D.f rule), by simp⟩, hJx3⟩⟩
    · obtain rfl : i = F.length := by omega
      have HQ2 : Hid (claimsL D.f x = pre ++ claimsR D.f rule) := Lib.hid (by rw [HQ.out, List.drop_length, claimsF_nil])
      have k1 : wr.cell? ⟨bx, 1, none⟩ = some (.int .i64 rule) := cell_of_blk HCr.out.box 1
      by_cases hrl : rule = -1
      · have HQ3 : Hid (claimsL D.f x = pre) := Lib.hid (by rw [HQ2.out]; simp [claimsR, hrl])
        have hre : (rule == -1) = true := by simpa using hrl
        clear hrl
        gi_wp2
        refine bodyPost_ret (results_none rfl _ _ _) rfl ?_
        exact ⟨⟨_, rfl⟩, .inl ⟨_, HQ3.out.symm, HP.out⟩⟩
      · have hre : (rule == -1) = false := by simpa using hrl
        have hb := isInB_iff.1 (HR.out.resolve_left hrl)
        obtain ⟨m, rfl⟩ := Int.eq_ofNat_of_zero_le hb.1
        have hmy : m < D.ys.length := by omega
        obtain ⟨rb, ro, rcap, hv, hrc⟩ := ruRow_cells HCr.out.de.fl.sl m hmy
        have e1 := hrc 0 _ rfl
        have p0 := cell_of_blk HCr.out.ptr 0
        have p1 := cell_of_blk HCr.out.de.str 0
        rw [hv] at p1
        simp only [Nat.add_zero] at e1
        obtain ⟨al, pl, hvl⟩ := (HCr.out.de.fl.cds _ (List.getElem_mem hmy)).val
        have HCD := Lib.hid fun W' (hf : Fr [bq] W0 W') => (HC.out W' hf).de.fl.cds _ (List.getElem_mem hmy)
        have hmr : m < D.f.rus.length := by rw [HE.out, List.length_map]; exact hmy
        have hrx : D.f.rus[m] = D.ys[m].x := by simp [HE.out]
        have HQ3 : Hid (claimsL D.f x = pre ++ D.ys[m].x.cds.map fun x => ⟨x, true, true⟩) := Lib.hid (by
          rw [HQ2.out, claimsR, if_neg hrl, Int.toNat_natCast, List.getD_eq_getElem?_getD, List.getElem?_eq_getElem hmr, Option.getD_some, hrx])
        rw [hvl] at HCD
        generalize D.ys[m] = y at *
        obtain ⟨⟨cl, act'⟩, vl⟩ := y
        simp only at hvl HCD HQ3 e1
        subst hvl
        have hcl := (HCD.out _ HF.out).len
        clear hrc hv hrx hmr hrl hb HQ HQ2
        gi_wp2
        refine wpIn_wide.2 ?_
        refine reg_mix (Fr [] wr) [0, 1, 2, 3, 4, 5, 6, 7, 8, 9, 10, 11] (by kernel_rfl) (by kernel_rfl) (by kernel_rfl) rfl (Fr.drew _ _) ?_
        have FC : Fr [] wr wr.drew := Fr.drew _ _
        generalize wr.drew = WC at FC ⊢
        iterate 12 (refine mix_take1 (v := ?_) rfl rfl rfl rfl (fun w hS => ?_) ?_; rotate_left; (focus (have s0 := hS.cel e1 (by simp); have s1 := hS.cel p0 (by simp); have s2 := hS.cel p1 (by simp); have s3 := hS.cel k1 (by simp); clear hS; go_simp; rfl)); simp only [List.setIfInBounds_toArray, List.set_cons_succ, List.set_cons_zero])
        refine mix_end ?_
        have HFC := Lib.hid (HF.out.trans (FC.mono (fp2 := [bq]) (by simp)))
        have HPC := Lib.hid (HJ.out _ _ _ HP.out FC)
        clear FC e1 p0 p1 k1 hre HCr
        gi_wp2
        gi_loopw [58] (fun s wq => ∃ k : Nat, k ≤ cl.length ∧ s = .int .i64 k ∧ Hid (Fr [bq] W0 wq) ∧ Hid (J (pre ++ (cl.take k).map fun x => ⟨x, true, true⟩) wq)) (fun s _ => cl.length - (intOf s).toNat)
        case atStart => exact ⟨0, Nat.zero_le _, rfl, HFC, Lib.hid (by simpa using HPC.out)⟩
        case round =>
          obtain ⟨k, hk, rfl, HF2, HP2⟩ := hrel
          rename World => wq
          by_cases hlt : k < cl.length
          · obtain ⟨cb, co, cc, hv, hc⟩ := cdRow_cells (HCD.out _ HF2.out) k hlt
            cases hv
            have q0 := hc 0 _ rfl
            have q1 := hc 1 _ rfl
            have q2 := hc 2 _ rfl
            have q3 := hc 3 _ rfl
            simp only [Nat.add_zero] at q0 q1 q2 q3
            have HT : Hid ((cl.take (k + 1)).map (fun x => (⟨x, true, true⟩ : Clm)) = (cl.take k).map (fun x => (⟨x, true, true⟩ : Clm)) ++ [⟨cl[k], true, true⟩]) := Lib.hid (by rw [List.take_succ_eq_append_getElem hlt, List.map_append]; rfl)
            have HPF : Hid ((pre ++ (cl.take k).map fun x => (⟨x, true, true⟩ : Clm)) ++ [⟨cl[k], true, true⟩] <+: claimsL D.f x) := Lib.hid (by
              rw [HQ3.out, List.append_assoc, ← HT.out]
              refine (List.prefix_append_right_inj _).2 ?_
              exact (List.take_prefix _ _).map _)
            obtain ⟨fn, tmps, assign, body, hy, hR⟩ := HY.out _ ⟨cl[k], true, true⟩ _ (HJ.out _ _ _ HP2.out (Fr.alloc [] wq (.cells #[.int .i64 cl[k].kind, .int .i64 cl[k].lo, .int .i64 cl[k].hi, .bool cl[k].neg] 93))) HPF.out
            generalize cl[k] = y at *
            obtain ⟨yk, yl, yh, yn⟩ := y
            simp only at q0 q1 q2 q3 hy hR
            dsimp only [clmE] at hy
            have HRR := Lib.hid hR
            have HFA := Lib.hid (HF2.out.trans (Fr.alloc [bq] wq (.cells #[.int .i64 yk, .int .i64 yl, .int .i64 yh, .bool yn] 93)))
            clear hR hc
            gi_wp2
            refine ⟨fun hh => (by cases hh), ?_⟩
            refine HRR.out.mono ?_
            rintro e W3 (⟨rfl, hJ3, hk3⟩ | ⟨rfl, hJx3⟩)
            · have HF3 := Lib.hid (KpB.fr HFA.out hk3)
              have HJ3 := Lib.hid hJ3
              clear hk3 hJ3 q0 q1 q2 q3
              gi_wp2
              go_roundw
              case rel => exact ⟨k + 1, by omega, by go_num, HF3, by rw [HT.out, ← List.append_assoc]; exact HJ3⟩
              case measure => simp [intOf]; omega
            · gi_wp2
              refine bodyPost_ret (results_none rfl _ _ _) rfl ?_
              exact ⟨⟨_, rfl⟩, .inr ⟨_, HPF.out, hJx3⟩⟩
          · obtain rfl : k = cl.length := by omega
            gi_wp2
            go_end0
            exact ⟨⟨_, rfl⟩, .inl ⟨_, by rw [List.take_length]; exact HQ3.out.symm, HP2.out⟩⟩

end Go.Proofs.YtkopnooajikpmaaGreat

/-
  filter: claims, and Check's taking of a proof.
-/
namespace Go.Proofs.YtkopnooajikpmaaGreat
open Go.RowKit Go.Lib

set_option maxRecDepth 100000 in
theorem claims_c (D : De) (act rule : Int) (aF aP : Option Addr) (nF pF nP pP : Nat) (w : World) : Calls Tryz.prog 82 #[.pointer (some ⟨D.bd, 0, none⟩), dnV act rule (.slice aF nF pF) (.slice aP nP pP)] w fun e w' =>
    e = .returned (.func (.func 107) #[] #[.pointer (some ⟨w.heap.size + 1, 0, none⟩), .pointer (some ⟨w.heap.size, 0, none⟩)]) ∧ w' = (w.alloc (.cells #[.pointer (some ⟨D.bd, 0, none⟩)] 137)).alloc (.cells #[.int .i64 act, .int .i64 rule, .slice aF nF pF, .slice aP nP pP] 62) := by
  go_enter Tryz.func82, Tryz.ntmps82
  go_wp2_with fail
  go_ret
  exact ⟨rfl, rfl⟩

theorem PrAt.tail {w : World} {b off cap : Nat} {z : PrV} {zs : List PrV} (h : PrAt w (.slice (some ⟨b, off, none⟩) (zs.length + 1) cap) (z :: zs)) {a : Option Addr} (ha : a = if cap = 1 then some ⟨b, off, none⟩ else some ⟨b, off + 1, none⟩) : PrAt w (.slice a zs.length (cap - 1)) zs := by
  refine ⟨?_, fun y hy => h.fds y (by simp [hy])⟩
  obtain ⟨a', cap', hv, h1, h2, h3⟩ := h.sl
  cases hv
  simp only [List.length_cons] at h1 h3
  refine ⟨a, cap - 1, rfl, by omega, by omega, fun h0 => ?_⟩
  obtain ⟨b', off', hv, hc⟩ := h3 (by omega)
  cases hv
  rw [if_neg (by omega)] at ha
  refine ⟨b, off + 1, ha, fun j u hu => ?_⟩
  have := hc (j + 1) u (by simpa using hu)
  rwa [show off + 1 + j = off + (j + 1) by omega]

/-- What next does; w0: the world before the box of the proofs. -/
def Taken (w0 : World) (b : Rb) (q : Qn) (want : Bool) (bP : Nat) (zs : List PrV) (w : World) (e : Ending) (w' : World) : Prop := match zs with
  | [] => e = .returned (.bool false) ∧ Fr [] w w'
  | z :: zr => e = .returned (.bool (checkB b q want z.l)) ∧ Fr [bP] w w' ∧ ∃ v', w'.heap[bP]? = some (.cells #[v'] 54 (0, 0)) ∧ PrAt w0 v' zr

set_option maxRecDepth 100000 in
set_option maxHeartbeats 2000000 in
theorem fNext_c (w0 : World) (q : Qn) (want : Bool) (bP bB : Nat) (v : Value) (zs : List PrV) (vc vp vf : Value) (ys : List ClV) (b : Rb) (w : World) (hP : w.heap[bP]? = some (.cells #[v] 54 (0, 0))) (hB : w.heap[bB]? = some (.cells #[vc, vp, vf] 30 (0, 0))) (hz : PrAt w0 v zs) (hb : RbAt w0 vc vp vf ys b)
    (h0 : Fr [] w0 w) (hlt : w0.heap.size ≤ bP) : Calls Tryz.prog 81 #[qnV q, .bool want, .pointer (some ⟨bP, 0, none⟩), .pointer (some ⟨bB, 0, none⟩)] w (Taken w0 b q want bP zs w) := by
  have FA : Fr [] w (w.alloc (.cells #[.int .i64 q.thing, .int .i64 q.says, .int .i64 q.at_, .int .i64 q.known] 33)) := Fr.alloc _ _ _
  have HA := Lib.hid FA
  have HP := Lib.hid (FA.keep hP (by simp))
  have HB := Lib.hid (FA.keep hB (by simp))
  have HQ := Lib.hid (heap_alloc_new w (.cells #[.int .i64 q.thing, .int .i64 q.says, .int .i64 q.at_, .int .i64 q.known] 33))
  have H0 := Lib.hid h0
  have hPl := blk_lt hP
  have hne : bB ≠ bP := fun e => by
    subst e
    rw [hP] at hB
    simp at hB
  obtain ⟨ac, pc, rfl⟩ := hb.cls.sl.val
  obtain ⟨ar, pr, rfl⟩ := hb.rps.val
  obtain ⟨af, pf, rfl⟩ := hb.fas.val
  cases zs with
  | nil =>
    obtain ⟨a, cap, rfl⟩ := hz.sl.val
    have c0 : (w.alloc (.cells #[.int .i64 q.thing, .int .i64 q.says, .int .i64 q.at_, .int .i64 q.known] 33)).cell? ⟨bP, 0, none⟩ = some (.slice a 0 cap) := cell_of_blk HP.out 0
    obtain ⟨th, sa, at_, kn⟩ := q
    clear hz hb h0 hP hB FA
    unfold Taken qnV
    simp only at c0 HA ⊢
    go_enter Tryz.func81, Tryz.ntmps81
    go_wp2_with fail
    go_ret
    exact ⟨rfl, HA.out⟩
  | cons z zr =>
    obtain ⟨a, cap, rfl⟩ := hz.sl.val
    obtain ⟨pb, po, rfl, hc⟩ := hz.sl.at_ (by simp)
    obtain ⟨az, pz, hzv⟩ := (hz.fds z (by simp)).val
    have e0 := (H0.out.trans FA).cel (hc 0 z.v (by simp)) (by simp)
    rw [hzv] at e0
    have c0 : (w.alloc (.cells #[.int .i64 q.thing, .int .i64 q.says, .int .i64 q.at_, .int .i64 q.known] 33)).cell? ⟨bP, 0, none⟩ = some (.slice (some ⟨pb, po, none⟩) (zr.length + 1) cap) := cell_of_blk HP.out 0
    have z0 : (w.alloc (.cells #[.int .i64 q.thing, .int .i64 q.says, .int .i64 q.at_, .int .i64 q.known] 33)).frozen? ⟨bP, 0, none⟩ = false := free_of_blk HP.out 0
    have hzl := hz.sl.len
    simp only [List.length_cons] at hzl
    have hcap : zr.length + 1 ≤ cap := by
      obtain ⟨_, _, hv, h1, _⟩ := hz.sl
      cases hv; simpa using h1
    have HT := Lib.hid fun (a : Option Addr) ha => PrAt.tail (a := a) hz ha
    have HFD := Lib.hid (hz.fds z (by simp))
    have HRB := Lib.hid hb
    obtain ⟨th, sa, at_, kn⟩ := q
    obtain ⟨l, vz⟩ := z
    simp only at hzv e0 HFD
    subst hzv
    clear hz hb h0 hP hB FA hc
    unfold Taken qnV
    simp only [Nat.add_zero, List.length_cons] at c0 z0 HA HP HB HQ e0 HT ⊢
    have b0 : (w.alloc (.cells #[.int .i64 th, .int .i64 sa, .int .i64 at_, .int .i64 kn] 33)).cell? ⟨bB, 0, none⟩ = some (.slice ac ys.length pc) := cell_of_blk HB.out 0
    have b1 : (w.alloc (.cells #[.int .i64 th, .int .i64 sa, .int .i64 at_, .int .i64 kn] 33)).cell? ⟨bB, 1, none⟩ = some (.slice ar b.rps.length pr) := cell_of_blk HB.out 1
    have b2 : (w.alloc (.cells #[.int .i64 th, .int .i64 sa, .int .i64 at_, .int .i64 kn] 33)).cell? ⟨bB, 2, none⟩ = some (.slice af b.fas.length pf) := cell_of_blk HB.out 2
    have hnq : w.heap.size ≠ bP := by omega
    have hne' : bP ≠ bB := fun e => hne e.symm
    have hnq' : bP ≠ w.heap.size := fun e => hnq e.symm
    have hnn : ((zr.length : Int) + 1 == 0) = false := by
      simp; omega
    have CK := Lib.hid fun W vl (hf : Fr [] w0 W) => check_c _ _ _ vl ys b ⟨th, sa, at_, kn⟩ want l W (HRB.out.same hf)
    have HS0 := Lib.hid (H0.out.trans HA.out)
    have hPl' : bP < (w.alloc (.cells #[.int .i64 th, .int .i64 sa, .int .i64 at_, .int .i64 kn] 33)).heap.size := blk_lt HP.out
    have hwl := HA.out
    have k0 : (w.alloc (.cells #[.int .i64 th, .int .i64 sa, .int .i64 at_, .int .i64 kn] 33)).cell? ⟨w.heap.size, 0, none⟩ = some (.int .i64 th) := cell_of_blk HQ.out 0
    have k1 : (w.alloc (.cells #[.int .i64 th, .int .i64 sa, .int .i64 at_, .int .i64 kn] 33)).cell? ⟨w.heap.size, 1, none⟩ = some (.int .i64 sa) := cell_of_blk HQ.out 1
    have k2 : (w.alloc (.cells #[.int .i64 th, .int .i64 sa, .int .i64 at_, .int .i64 kn] 33)).cell? ⟨w.heap.size, 2, none⟩ = some (.int .i64 at_) := cell_of_blk HQ.out 2
    have k3 : (w.alloc (.cells #[.int .i64 th, .int .i64 sa, .int .i64 at_, .int .i64 kn] 33)).cell? ⟨w.heap.size, 3, none⟩ = some (.int .i64 kn) := cell_of_blk HQ.out 3
    by_cases hc1 : cap = 1
    all_goals
      have HTT := Lib.hid (HT.out _ rfl)
      simp only [hc1, if_true, if_false] at HTT
      go_enter Tryz.func81, Tryz.ntmps81
      go_upto_region 1 with fail
      generalize w.alloc (.cells #[.int .i64 th, .int .i64 sa, .int .i64 at_, .int .i64 kn] 33) = W1 at *
      go_wp2_with fail
      have FS := fun u => Fr.setCell (fp := [bP]) W1 (p := ⟨bP, 0, none⟩) u (by simp)
      have FW := fun u => HS0.out.step (FS u) (fun i hi => by simp at hi; exact .inr (by omega))
      refine (CK.out _ _ (FW _) (HFD.out.same (FW _))).mono ?_
      rintro e w2 ⟨rfl, f2⟩
      clear b0 b1 b2 k0 k1 k2 k3 c0 z0 e0
      go_wp2_with fail
      go_ret
      exact ⟨rfl, (HA.out.mono (by simp)).trans ((FS _).trans (f2.mono (by simp))), _, f2.keep (heap_setCell_same (i := 0) _ HP.out) (by simp), HTT.out⟩

end Go.Proofs.YtkopnooajikpmaaGreat
