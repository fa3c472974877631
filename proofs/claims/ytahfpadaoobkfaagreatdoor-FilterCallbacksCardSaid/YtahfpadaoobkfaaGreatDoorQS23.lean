/-
  attest: first, over the hands of an attestation.
-/
import Derived.Test.YtahfpadaoobkfaaGreatDoorQS22
import Derived.Test.YtahfpadaoobkfaaGreatDoorQS21
import Derived.Test.YtahfpadaoobkfaaGreatDoorQS11
namespace Go.Proofs.YtahfpadaoobkfaaGreatDoor
open Go.RowKit Go.Shelf Go.Lib

attribute [local go_sem] Oper.semAt_some

theorem Fr.grownNoneT {A B : World} (hf : Fr [] A B) : A.grownBy B none := ⟨hf.os, hf.tape, hf.output, hf.size, fun k hk _ => hf.block k hk (by simp)⟩
/-- A hand as the iterator gives it. -/
def GdX (x : HdX) : Prop := x.2.2.length ≤ 100000 ∧ 0 ≤ x.2.1.car ∧ x.2.1.car ≤ 7 ∧ x.2.1.sig.size ≤ 1000
abbrev HdO := { x : HdX // GdX x }
theorem putN_len2 {n : Int} (h0 : 0 ≤ n) (h1 : n ≤ 1000000000) : (putN n).length ≤ 9 := by
  obtain ⟨m, rfl⟩ := Int.eq_ofNat_of_zero_le h0
  exact putN_len m (by omega)
theorem dlB_parts {d : Dl} (hd : dlB d = true) : (0 ≤ d.caller ∧ d.caller ≤ 99999999) ∧ (0 ≤ d.called ∧ d.called ≤ 99999999) ∧ (0 ≤ d.at_ ∧ d.at_ ≤ 10000000) ∧ (0 ≤ d.serial ∧ d.serial ≤ 1000000) := by
  simp only [dlB, Bool.and_eq_true, isInB_iff] at hd
  exact ⟨hd.1.1.1, hd.1.1.2, hd.1.2, hd.2⟩
theorem cntM_len {d : Dl} (hd : dlB d = true) {i : Nat} (hi : i ≤ 100000) {h : Hd} (h1 : 0 ≤ h.car ∧ h.car ≤ 7) (h2 : 0 ≤ h.lev ∧ h.lev ≤ 1000000) {b : ByteArray} (hb : b.size ≤ 1000) : (cntM d i h b).length ≤ 100000 := by
  obtain ⟨a1, a2, a3, a4⟩ := dlB_parts hd
  have e1 := putN_len2 a1.1 (by omega); have e2 := putN_len2 a2.1 (by omega); have e3 := putN_len2 a3.1 (by omega); have e4 := putN_len2 a4.1 (by omega)
  have e5 := putN_len2 (n := (i : Int)) (by omega) (by omega); have e6 := putN_len2 h1.1 (by omega); have e7 := putN_len2 h2.1 (by omega)
  have e0 : (encZ 14).length ≤ 9 := encT_len9 (by omega)
  simp only [cntM, List.length_append, bts_len]
  omega
theorem hdsI_good {d : Dl} (hd : dlB d = true) : ∀ (l : List Hd) (i : Nat) (b : ByteArray), (∀ h, h ∈ l → 0 ≤ h.car ∧ h.car ≤ 7 ∧ 0 ≤ h.lev ∧ h.lev ≤ 1000000 ∧ h.sig.size ≤ 1000) → i + l.length ≤ 100000 → b.size ≤ 1000 → ∀ x, x ∈ hdsI d i b l → GdX x
  | [], _, _, _, _, _, x, hx => by cases hx
  | h :: l, i, b, hc, hl, hb, x, hx => by
    have h1 := hc h List.mem_cons_self
    simp only [List.length_cons] at hl
    rcases List.mem_cons.1 hx with rfl | hx
    · exact ⟨cntM_len hd (by omega) ⟨h1.1, h1.2.1⟩ ⟨h1.2.2.1, h1.2.2.2.1⟩ hb, h1.1, h1.2.1, h1.2.2.2.2⟩
    · exact hdsI_good hd l (i + 1) h.sig (fun y hy => hc y (List.mem_cons_of_mem _ hy)) (by omega) h1.2.2.2.2 x hx
/-- The same, each hand with what is known of it. -/
theorem hands_seqO (d : Dl) (v : Value) (hs : List Hd) (bx bq : Nat) (W0 : World) (hd : dlB d = true) (hcl : ∀ h, h ∈ hs → 0 ≤ h.car ∧ h.car ≤ 7 ∧ 0 ≤ h.lev ∧ h.lev ≤ 1000000 ∧ h.sig.size ≤ 1000) (hln : hs.length ≤ 1000)
    (hbx : W0.heap[bx]? = some (.cells #[.int .i64 d.caller, .int .i64 d.called, .int .i64 d.at_, .int .i64 d.serial, v] 44 (0, 0))) (hne : bx ≠ bq) (hrow : W0.ownsRow 0 60 3 v hs.length (hs.flatMap hdC)) (hrn : ∀ g, v.ownBlock = some g → g ≠ bq) (hbq : bq < W0.heap.size) :
    SeqStopsK Fence.wide 2 Tryz.prog 80 #[.pointer (some ⟨bx, 0, none⟩)] (fun m : HdO => hdE m.1) (KpC bq) (fun ys => ys.map (·.1) = hdsI d 0 ByteArray.empty hs) (fun pre => pre.map (·.1) <+: hdsI d 0 ByteArray.empty hs) (hdsI d 0 ByteArray.empty hs).length W0 := by
  intro l J Jx W hW hJ hJx hY h0
  have hok := hdsI_good hd hs 0 ByteArray.empty hcl (by omega) (by decide)
  have hfr : Fr [] W0 W := Fr.of_below [] hW
  refine (hands1_in 2 l d v hs bx bq hd (fun h hh => by have := hcl h hh; omega) hln (fun pre W => (∃ pre' : List HdO, pre'.map (·.1) = pre ∧ J pre' W) ∧ KpC bq W0 W) (fun pre W => ∃ pre' : List HdO, pre'.map (·.1) = pre ∧ Jx pre' W) (fun pre W1 h => h.2.cel hbx hne) ?_ ?_ ?_ W (Nat.lt_of_lt_of_le hbq hfr.size) ⟨⟨[], rfl, h0⟩, KpC.of (hfr.mono (by simp))⟩).mono ?_
  · rintro pre W1 ⟨_, hk⟩
    have hr1 : W1.ownsRow 0 60 3 v hs.length (hs.flatMap hdC) := by
      refine ⟨hrow.1, hrow.2.imp id ?_⟩
      rintro ⟨g, cap, cur, rfl, h1, h2, h3⟩
      exact ⟨g, cap, cur, rfl, h1, hk.cel h2 (hrn g rfl), h3⟩
    have hsl := sl_of_row hr1
    obtain ⟨a, cap, rfl⟩ := hsl.val
    refine ⟨a, cap, rfl, fun h => ?_⟩
    obtain ⟨b, off, cap', hv, hc⟩ := hdRow_cells hsl pre.length h
    cases hv
    exact ⟨b, off, rfl, hc⟩
  · rintro pre m W2 ⟨⟨pre', rfl, hj⟩, hk⟩ hp
    have hm : m ∈ hdsI d 0 ByteArray.empty hs := hp.subset (by simp)
    have hl : pre'.length < (hdsI d 0 ByteArray.empty hs).length := by
      have := hp.length_le
      rw [List.length_append, List.length_map] at this
      simp only [List.length_cons, List.length_nil] at this
      omega
    obtain ⟨fn, tmps, assign, body, hy, hR⟩ := hY pre' ⟨m, hok m hm⟩ W2 hj hl
    refine ⟨fn, tmps, assign, body, hy, hR.mono ?_⟩
    rintro e W3 (⟨he, hj3, hk3⟩ | ⟨he, hj3⟩)
    · exact .inl ⟨he, ⟨⟨_, by rw [List.map_append]; rfl, hj3⟩, hk.trans hk3⟩, hk3⟩
    · exact .inr ⟨he, ⟨_, by rw [List.map_append]; rfl, hj3⟩⟩
  · rintro s A B ⟨⟨pre', rfl, hj⟩, hk⟩ hf
    exact ⟨⟨pre', rfl, hJ _ A B none hj hf.grownNoneT (fun r e => by cases e)⟩, hk.trans (KpC.of (hf.mono (by simp)))⟩
  · rintro e W' ⟨he, ⟨⟨pre', hp, hj⟩, _⟩ | ⟨pre, hpre, pre', rfl, hj⟩⟩
    · exact ⟨he, .inl ⟨pre', hp, hj⟩⟩
    · exact ⟨he, .inr ⟨pre', hpre, hj⟩⟩

/-- The first hand that a function picks, which may look at those before. -/
def fstP (p : List HdX → HdX → Bool) : List HdX → List HdX → Option HdX
  | _, [] => none
  | pre, x :: l => if p pre x then some x else fstP p (pre ++ [x]) l
def fstV : Option HdX → Value
  | some x => .tuple #[.int .i64 x.1, hxV x.2.1 x.2.2]
  | none => .tuple #[.int .i64 (-1), .agg #[.int .i64 0, .int .i64 0, .string ⟨#[]⟩, .string ⟨#[]⟩]]
def bareH (pre : List HdO) : List HdX := pre.map (·.1)
theorem bareH_snoc (pre : List HdO) (m : HdO) : bareH (pre ++ [m]) = bareH pre ++ [m.1] := by unfold bareH; rw [List.map_append]; rfl
/-- None of these is picked. -/
def NoP (p : List HdX → HdX → Bool) (pre : List HdX) : Prop := ∀ l, fstP p [] (pre ++ l) = fstP p pre l
theorem NoP.nil (p : List HdX → HdX → Bool) : NoP p [] := fun _ => rfl
theorem NoP.snoc {p : List HdX → HdX → Bool} {pre : List HdX} {x : HdX} (h : NoP p pre) (hx : p pre x = false) : NoP p (pre ++ [x]) := fun l => by
  rw [List.append_assoc, h, List.singleton_append, fstP, hx]
  rfl
theorem keepsFrom_frT {B bP : Nat} {W W' : World} (hf : Fr [bP] W W') (hb : bP < B) : KeepsFrom B W W' := ⟨hf.size, fun k o hk hB _ => hf.keep hB (by simp; omega)⟩
theorem keepsFrom_frL {B : Nat} {S : List Nat} {W W' : World} (hf : Fr S W W') (hb : ∀ k, k ∈ S → k < B) : KeepsFrom B W W' := ⟨hf.size, fun k o hk hB _ => hf.keep hB (fun hm => by have := hb k hm; omega)⟩
/-- Between two rounds; where a round has left. -/
def FsI (W0 : World) (bq : Nat) (ty : TypeId) (C : List HdX → Array Value) (p : List HdX → HdX → Bool) (pre : List HdO) (W : World) : Prop :=
  W.heap[bq]? = some (.cells (C (bareH pre)) ty (0, 0)) ∧ Fr [bq] W0 W ∧ NoP p (bareH pre)
def FsX (W0 : World) (bq B4 B5 : Nat) (p : List HdX → HdX → Bool) (jc : Code) (pre : List HdO) (W : World) : Prop :=
  jc = .ret ∧ ∃ (pre0 : List HdX) (x : HdX), bareH pre = pre0 ++ [x] ∧ p pre0 x = true ∧ NoP p pre0 ∧ Fr [bq, B4, B5] W0 W ∧ W.heap[B4]? = some (.cells #[.int .i64 x.1] 3 (0, 0)) ∧ W.heap[B5]? = some (.cells #[.int .i64 x.2.1.car, .int .i64 x.2.1.lev, .string x.2.1.sig, .string (str x.2.2)] 122 (0, 0))

set_option maxRecDepth 1000000 in
set_option maxHeartbeats 4000000 in
theorem first_c (f : Nat) (lb : Array Value) (eg : ∀ args w, (callFunc f args).run Tryz.prog w = .ok (.enter f args) w) (d : Dl) (v : Value) (hs : List Hd) (bx bq : Nat) (ty : TypeId) (C : List HdX → Array Value) (p : List HdX → HdX → Bool) (w : World) (hd : dlB d = true)
    (hcl : ∀ h, h ∈ hs → 0 ≤ h.car ∧ h.car ≤ 7 ∧ 0 ≤ h.lev ∧ h.lev ≤ 1000000 ∧ h.sig.size ≤ 1000) (hln : hs.length ≤ 1000)
    (hbx : w.heap[bx]? = some (.cells #[.int .i64 d.caller, .int .i64 d.called, .int .i64 d.at_, .int .i64 d.serial, v] 44 (0, 0))) (hne : bx ≠ bq) (hrow : w.ownsRow 0 60 3 v hs.length (hs.flatMap hdC)) (hrn : ∀ g, v.ownBlock = some g → g ≠ bq)
    (hbq : w.heap[bq]? = some (.cells (C []) ty (0, 0)))
    (hst : ∀ pre x W, GdX x → Fr [bq] w W → W.heap[bq]? = some (.cells (C pre) ty (0, 0)) → Calls Tryz.prog f (#[hxV x.2.1 x.2.2] ++ lb) W fun e W' => e = .returned (.bool (p pre x)) ∧ W'.heap[bq]? = some (.cells (C (pre ++ [x])) ty (0, 0)) ∧ Fr [bq] W W') :
    Calls Tryz.prog 44 #[.func (.func 80) #[] #[.pointer (some ⟨bx, 0, none⟩)], .func (.func f) #[] lb] w fun e w' => Fr [bq] w w' ∧ e = .returned (fstV (fstP p [] (hdsI d 0 ByteArray.empty hs))) := by
  have hbw := blk_lt hbq
  refine (callsIn_wide (n := 3)).1 (callsIn_of_wp_marks Tryz.func44 rfl trivial ?_ rfl)
  simp only [Tryz.ntmps44, List.size_toArray, List.length_cons, List.length_nil, Nat.reduceAdd, Nat.reduceSub, Array.replicate_succ, Array.replicate_zero, List.push_toArray, List.append_toArray, List.nil_append, List.cons_append]
  refine wpIn_wide.2 ?_
  go_wp2_with fail
  have A3 := heap_alloc_new w (.cells #[.func (.func f) #[] lb] 129)
  have A4 := heap_alloc_new (w.alloc (.cells #[.func (.func f) #[] lb] 129)) (.cells #[.int .i64 0] 3)
  have A5 := heap_alloc_new ((w.alloc (.cells #[.func (.func f) #[] lb] 129)).alloc (.cells #[.int .i64 0] 3)) (.cells #[.int .i64 0, .int .i64 0, .string ⟨#[]⟩, .string ⟨#[]⟩] 122)
  have f4 := Fr.alloc [] (w.alloc (.cells #[.func (.func f) #[] lb] 129)) (.cells #[.int .i64 0] 3)
  have f5 := Fr.alloc [] ((w.alloc (.cells #[.func (.func f) #[] lb] 129)).alloc (.cells #[.int .i64 0] 3)) (.cells #[.int .i64 0, .int .i64 0, .string ⟨#[]⟩, .string ⟨#[]⟩] 122)
  have B3 := f5.keep (f4.keep A3 (by simp)) (by simp)
  have B4 := f5.keep A4 (by simp)
  have F0 := ((Fr.alloc [] w (.cells #[.func (.func f) #[] lb] 129)).trans f4).trans f5
  have hsz : (((w.alloc (.cells #[.func (.func f) #[] lb] 129)).alloc (.cells #[.int .i64 0] 3)).alloc (.cells #[.int .i64 0, .int .i64 0, .string ⟨#[]⟩, .string ⟨#[]⟩] 122)).heap.size = w.heap.size + 1 + 1 + 1 := by simp
  simp only [World.size_alloc] at B4 A5
  clear A3 A4 f4 f5
  generalize ((w.alloc (.cells #[.func (.func f) #[] lb] 129)).alloc (.cells #[.int .i64 0] 3)).alloc (.cells #[.int .i64 0, .int .i64 0, .string ⟨#[]⟩, .string ⟨#[]⟩] 122) = W0 at *
  have G3 := Lib.hid B3; have G4 := Lib.hid B4; have G5 := Lib.hid A5; have GF := Lib.hid F0; have GS := Lib.hid hsz; have GST := Lib.hid hst
  have SQ := hands_seqO d v hs bx bq W0 hd hcl hln (F0.keep hbx (by simp)) hne (row_fr hrow F0 (by simp)) hrn (by omega)
  have GQ := F0.keep hbq (by simp)
  have HEg := Lib.hid eg
  clear B3 B4 A5 F0 hst
  refine (wpIn_wide (n := 3)).1 ?_
  refine wpIn_rangeFunc_ownH (F := Fence.wide) (n := 3) rfl (by omega) (gf := 80) (lb := #[.pointer (some ⟨bx, 0, none⟩)]) rfl trivial (fun _ _ => rfl)
    SQ KpC.trans (fun W l o o' hl h hc _ => KpC.put W l o o' h hc) (Below.refl _ _) (fun _ => rfl)
    (FsI W0 bq ty C p) (FsX W0 bq (w.heap.size + 1) (w.heap.size + 1 + 1) p) ?hI ?hIx ⟨GQ, Fr.refl _ _, NoP.nil p⟩
    (fun x a' W => ∃ Bx, W0.heap.size ≤ Bx ∧ W.heap[Bx]? = some (.cells #[.int .i64 x.1.2.1.car, .int .i64 x.1.2.1.lev, .string x.1.2.1.sig, .string (str x.1.2.2)] 122 (0, 0)) ∧ a' = { tmps := #[.func (.func 80) #[] #[.pointer (some ⟨bx, 0, none⟩)], .func (.func f) #[] lb, undef, .pointer (some ⟨w.heap.size, 0, none⟩), .pointer (some ⟨w.heap.size + 1, 0, none⟩), .pointer (some ⟨w.heap.size + 1 + 1, 0, none⟩), .int .i64 x.1.1, .pointer (some ⟨Bx, 0, none⟩), undef, .func (.func 80) #[] #[.pointer (some ⟨bx, 0, none⟩)], .int .i64 x.1.1, hxV x.1.2.1 x.1.2.2, undef, undef, undef, undef, undef, undef], defers := [] })
    ?hAx ?assign ?body ?done ?stop
  case hI =>
    rintro s X Y row ⟨h1, h2, h3⟩ hg hr
    refine ⟨(hg.block _ (blk_lt h1) (fun e => ?_)).trans h1, h2.step (Fr.grown (fp := row.toList) hg (fun k hk => by simp [hk])) (fun i hi => .inr (hr i (by simpa using hi)).1), h3⟩
    have := (hr _ e.symm).1
    have := GS.out
    omega
  case hIx =>
    rintro jc s X Y row ⟨h0, pre0, x, h1, h2, h3, h4, h5, h6⟩ hg hr
    refine ⟨h0, pre0, x, h1, h2, h3, h4.step (Fr.grown (fp := row.toList) hg (fun k hk => by simp [hk])) (fun i hi => .inr (hr i (by simpa using hi)).1), (hg.block _ (blk_lt h5) (fun e => ?_)).trans h5, (hg.block _ (blk_lt h6) (fun e => ?_)).trans h6⟩
    · have := (hr _ e.symm).1
      have := GS.out
      omega
    · have := (hr _ e.symm).1
      have := GS.out
      omega
  case hAx =>
    rintro m a' s X Y row ⟨Bx, hB, hc, hrest⟩ hg hr
    refine ⟨Bx, hB, (hg.block _ (blk_lt hc) (fun e => ?_)).trans hc, hrest⟩
    obtain ⟨_, o, ho, hn⟩ := hr _ e.symm
    rw [hc] at ho
    cases ho
    cases hn
  case assign =>
    rintro l pre x W K ⟨h1, h2, h3⟩ hK
    have hWs := h2.size
    obtain ⟨⟨xi, ⟨xc, xv, xs⟩, xt⟩, hx⟩ := x
    gi_wp2
    refine hK _ _ ((KeepsOthers.alloc _ _).from _) (KpC.of (Fr.alloc [bq] _ _)) ⟨heap_alloc_old _ h1, h2.trans (Fr.alloc _ _ _), h3⟩ ⟨W.heap.size, hWs, heap_alloc_new _ _, rfl⟩
  case body =>
    rintro l pre x a' W hl hrec ⟨h1, h2, h3⟩ ⟨Bx, hB, hc, rfl⟩ hlt
    obtain ⟨⟨xi, ⟨xc, xv, xs⟩, xt⟩, hx⟩ := x
    have hws := GS.out
    have L3 := Lib.hid (h2.keep G3.out (by simp; omega)); have L4 := Lib.hid (h2.keep G4.out (by simp; omega)); have L5 := Lib.hid (h2.keep G5.out (by simp; omega))
    have CS := Lib.hid (GST.out (bareH pre) (xi, ⟨xc, xv, xs⟩, xt) W hx ((GF.out.mono (by simp)).trans h2) h1)
    have HX := Lib.hid hc; have H2 := Lib.hid h2; have H3 := Lib.hid h3
    have c3 := cell_of_blk L3.out 0
    have x0 := cell_of_blk hc 0; have x1 := cell_of_blk hc 1; have x2 := cell_of_blk hc 2; have x3 := cell_of_blk hc 3
    clear h1 h2 h3 hc hlt hrec hl
    simp only at x0 x1 x2 x3
    cases hp : p (bareH pre) (xi, ⟨xc, xv, xs⟩, xt) with
    | false =>
      rw [hp] at CS
      gi_wp2
      refine ⟨trivial, CallsIn.inRound l (callsIn_wide.2 (CS.out.mono ?_))⟩
      rintro e W2 ⟨rfl, hq2, f2⟩
      have HY : Hid (KeepsFrom W0.heap.size W W2 ∧ KpC bq W W2 ∧ FsI W0 bq ty C p (pre ++ [(⟨(xi, ⟨xc, xv, xs⟩, xt), hx⟩ : HdO)]) W2) := Lib.hid ⟨keepsFrom_frT f2 (by omega), KpC.of f2, by rw [bareH_snoc]; exact hq2, H2.out.trans f2, by rw [bareH_snoc]; exact NoP.snoc H3.out hp⟩
      clear hq2 f2
      gi_wp2
      exact HY.out
    | true =>
      rw [hp] at CS
      gi_wp2
      refine ⟨trivial, CallsIn.inRound l (callsIn_wide.2 (CS.out.mono ?_))⟩
      rintro e W2 ⟨rfl, hq2, f2⟩
      have M4 := f2.keep L4.out (by simp; omega); have M5 := f2.keep L5.out (by simp; omega)
      have hBb : Bx ≠ bq := by omega
      have x0 := f2.cel x0 (by simpa using hBb); have x1 := f2.cel x1 (by simpa using hBb); have x2 := f2.cel x2 (by simpa using hBb); have x3 := f2.cel x3 (by simpa using hBb)
      have HF2 := Lib.hid f2
      clear hq2 f2 c3
      gi_wp2
      refine reg_mixR (Fr [w.heap.size + 1, w.heap.size + 1 + 1] W2) [0, 1, 2, 3] (by kernel_rfl) (by kernel_rfl) (by kernel_rfl) rfl (by kernel_rfl) (by rintro ⟨a, w, h⟩; exact h) (Fr.drew _ _) ?_
      have FC : Fr [w.heap.size + 1, w.heap.size + 1 + 1] W2 W2.drew := Fr.drew _ _
      have N4 := (Fr.drew [] W2).keep M4 (by simp); have N5 := (Fr.drew [] W2).keep M5 (by simp)
      generalize W2.drew = WC at FC N4 N5 ⊢
      iterate 2 (refine mix_take1 (v := ?_) rfl rfl rfl rfl (fun w hS => ?_) ?_; rotate_left; (focus (have s0 := hS.cel x0 (by simp; omega); have s1 := hS.cel x1 (by simp; omega); have s2 := hS.cel x2 (by simp; omega); have s3 := hS.cel x3 (by simp; omega); clear hS; go_simp; rfl)); simp only [List.setIfInBounds_toArray, List.set_cons_succ, List.set_cons_zero])
      have d4 := cell_of_blk N4 0; have g4 := free_of_blk N4 0
      refine mix_do rfl rfl rfl (fun K hK => ?_)
      go_simp
      try go_upon
      try go_simp
      have P4 := heap_setCell_same (i := 0) (.int .i64 xi) N4
      have P5 := heap_setCell_other (p := ⟨w.heap.size + 1, 0, none⟩) (.int .i64 xi) N5 (by simp)
      have FC := FC.trans (Fr.setCell (fp := [w.heap.size + 1, w.heap.size + 1 + 1]) (p := ⟨w.heap.size + 1, 0, none⟩) WC (.int .i64 xi) (by simp))
      refine hK _ _ FC ?_
      clear hK K
      try simp only [Act.put, List.setIfInBounds_toArray, List.set_cons_succ, List.set_cons_zero]
      generalize WC.setCell ⟨w.heap.size + 1, 0, none⟩ (.int .i64 xi) = V1 at *
      have a0 := cell_of_blk P5 0; have a1 := cell_of_blk P5 1; have a2 := cell_of_blk P5 2; have a3 := cell_of_blk P5 3
      have g0 := free_of_blk P5 0; have g1 := free_of_blk P5 1; have g2 := free_of_blk P5 2; have g3 := free_of_blk P5 3
      refine mix_do rfl rfl rfl (fun K hK => ?_)
      go_simp
      try go_upon
      try go_simp
      have FS : Fr [w.heap.size + 1, w.heap.size + 1 + 1] V1 ((((V1.setCell ⟨w.heap.size + 1 + 1, 0, none⟩ (.int .i64 xc)).setCell ⟨w.heap.size + 1 + 1, 1, none⟩ (.int .i64 xv)).setCell ⟨w.heap.size + 1 + 1, 2, none⟩ (.string xs)).setCell ⟨w.heap.size + 1 + 1, 3, none⟩ (.string (str xt))) := (((Fr.setCell _ _ (by simp)).trans (Fr.setCell _ _ (by simp))).trans (Fr.setCell _ _ (by simp))).trans (Fr.setCell _ _ (by simp))
      have Q5 := heap_setCell_same (i := 3) (.string (str xt)) (heap_setCell_same (i := 2) (.string xs) (heap_setCell_same (i := 1) (.int .i64 xv) (heap_setCell_same (i := 0) (.int .i64 xc) P5)))
      have Q4 := heap_setCell_other (p := ⟨w.heap.size + 1 + 1, 3, none⟩) (.string (str xt)) (heap_setCell_other (p := ⟨w.heap.size + 1 + 1, 2, none⟩) (.string xs) (heap_setCell_other (p := ⟨w.heap.size + 1 + 1, 1, none⟩) (.int .i64 xv) (heap_setCell_other (p := ⟨w.heap.size + 1 + 1, 0, none⟩) (.int .i64 xc) P4 (by simp)) (by simp)) (by simp)) (by simp)
      have FC := FC.trans FS
      refine hK _ _ FC ?_
      clear hK K
      try simp only [Act.put, List.setIfInBounds_toArray, List.set_cons_succ, List.set_cons_zero]
      generalize ((((V1.setCell ⟨w.heap.size + 1 + 1, 0, none⟩ (.int .i64 xc)).setCell ⟨w.heap.size + 1 + 1, 1, none⟩ (.int .i64 xv)).setCell ⟨w.heap.size + 1 + 1, 2, none⟩ (.string xs)).setCell ⟨w.heap.size + 1 + 1, 3, none⟩ (.string (str xt))) = V2 at *
      refine mix_end ?_
      have HFW : Hid (Fr [bq, w.heap.size + 1, w.heap.size + 1 + 1] W V2) := Lib.hid ((HF2.out.mono (by simp)).trans (FC.mono (by simp)))
      have HX2 : Hid (KeepsFrom W0.heap.size W V2 ∧ FsX W0 bq (w.heap.size + 1) (w.heap.size + 1 + 1) p .ret (pre ++ [(⟨(xi, ⟨xc, xv, xs⟩, xt), hx⟩ : HdO)]) V2) := Lib.hid ⟨keepsFrom_frL HFW.out (fun k hk => by simp at hk; omega), rfl, bareH pre, (xi, ⟨xc, xv, xs⟩, xt), bareH_snoc _ _, hp, H3.out, (H2.out.mono (by simp)).trans HFW.out, by simpa using Q4, by simpa using Q5⟩
      clear FS Q5 Q4 FC P4 P5 a0 a1 a2 a3 g0 g1 g2 g3 x0 x1 x2 x3 d4 g4
      gi_wp2
      exact HX2.out
  case done =>
    rintro E ys W hE hS ⟨h1, h2, h3⟩ hK
    have hws := GS.out
    have L4 := Lib.hid (h2.keep G4.out (by simp; omega)); have L5 := Lib.hid (h2.keep G5.out (by simp; omega))
    have HN : Hid (fstP p [] (hdsI d 0 ByteArray.empty hs) = none) := Lib.hid (by
      have := h3 []
      rw [List.append_nil] at this
      have hbe : bareH ys = hdsI d 0 ByteArray.empty hs := hS
      rw [hbe] at this
      rw [this, fstP])
    have HKE := Lib.hid hK; have H2 := Lib.hid h2
    clear h1 h2 h3 hS hK
    have hz := H2.out.size
    go_wp2_with fail
    have FA := Fr.alloc [] W (.cells #[.int .i64 0, .int .i64 0, .string ⟨#[]⟩, .string ⟨#[]⟩] 122)
    have M4 := FA.keep L4.out (by simp); have M5 := FA.keep L5.out (by simp); have M8 := heap_alloc_new W (.cells #[.int .i64 0, .int .i64 0, .string ⟨#[]⟩, .string ⟨#[]⟩] 122)
    have KE := (Below.heap_alloc W (.cells #[.int .i64 0, .int .i64 0, .string ⟨#[]⟩, .string ⟨#[]⟩] 122) E (Array.getElem?_eq_some_iff.1 HKE.out).1).trans HKE.out
    have HFA := Lib.hid FA
    have hW8 : W.heap.size ≥ W0.heap.size := hz
    generalize hb8 : W.heap.size = b8 at *
    generalize W.alloc (.cells #[.int .i64 0, .int .i64 0, .string ⟨#[]⟩, .string ⟨#[]⟩] 122) = WA at *
    have x0 := cell_of_blk M8 0; have x1 := cell_of_blk M8 1; have x2 := cell_of_blk M8 2; have x3 := cell_of_blk M8 3
    refine reg_mix (Fr [w.heap.size + 1, w.heap.size + 1 + 1] WA) [0, 1, 2] (by kernel_rfl) (by kernel_rfl) (by kernel_rfl) rfl (Fr.drew _ _) ?_
    have FC : Fr [w.heap.size + 1, w.heap.size + 1 + 1] WA WA.drew := Fr.drew _ _
    have N4 := (Fr.drew [] WA).keep M4 (by simp); have N5 := (Fr.drew [] WA).keep M5 (by simp)
    have NE : WA.drew.heap[E]? = some (.deferred (some [])) := KE
    generalize WA.drew = WC at FC N4 N5 NE ⊢
    (refine mix_take1 (v := ?_) rfl rfl rfl rfl (fun w hS => ?_) ?_; rotate_left; (focus (have s0 := hS.cel x0 (by simp; omega); have s1 := hS.cel x1 (by simp; omega); have s2 := hS.cel x2 (by simp; omega); have s3 := hS.cel x3 (by simp; omega); clear hS; go_simp; rfl)); simp only [List.setIfInBounds_toArray, List.set_cons_succ, List.set_cons_zero])
    have d4 := cell_of_blk N4 0; have g4 := free_of_blk N4 0
    refine mix_do rfl rfl rfl (fun K hK => ?_)
    go_simp
    try go_upon
    try go_simp
    have P4 := heap_setCell_same (i := 0) (.int .i64 (-1)) N4
    have P5 := heap_setCell_other (p := ⟨w.heap.size + 1, 0, none⟩) (.int .i64 (-1)) N5 (by simp)
    have PE := heap_setCell_other (p := ⟨w.heap.size + 1, 0, none⟩) (.int .i64 (-1)) NE (by simp; omega)
    have FC := FC.trans (Fr.setCell (fp := [w.heap.size + 1, w.heap.size + 1 + 1]) (p := ⟨w.heap.size + 1, 0, none⟩) WC (.int .i64 (-1)) (by simp))
    refine hK _ _ FC ?_
    clear hK K
    try simp only [Act.put, List.setIfInBounds_toArray, List.set_cons_succ, List.set_cons_zero]
    generalize WC.setCell ⟨w.heap.size + 1, 0, none⟩ (.int .i64 (-1)) = V1 at *
    have a0 := cell_of_blk P5 0; have a1 := cell_of_blk P5 1; have a2 := cell_of_blk P5 2; have a3 := cell_of_blk P5 3
    have g0 := free_of_blk P5 0; have g1 := free_of_blk P5 1; have g2 := free_of_blk P5 2; have g3 := free_of_blk P5 3
    refine mix_do rfl rfl rfl (fun K hK => ?_)
    go_simp
    try go_upon
    try go_simp
    have FS : Fr [w.heap.size + 1, w.heap.size + 1 + 1] V1 ((((V1.setCell ⟨w.heap.size + 1 + 1, 0, none⟩ (.int .i64 0)).setCell ⟨w.heap.size + 1 + 1, 1, none⟩ (.int .i64 0)).setCell ⟨w.heap.size + 1 + 1, 2, none⟩ (.string ⟨#[]⟩)).setCell ⟨w.heap.size + 1 + 1, 3, none⟩ (.string ⟨#[]⟩)) := (((Fr.setCell _ _ (by simp)).trans (Fr.setCell _ _ (by simp))).trans (Fr.setCell _ _ (by simp))).trans (Fr.setCell _ _ (by simp))
    have Q5 := heap_setCell_same (i := 3) (.string ⟨#[]⟩) (heap_setCell_same (i := 2) (.string ⟨#[]⟩) (heap_setCell_same (i := 1) (.int .i64 0) (heap_setCell_same (i := 0) (.int .i64 0) P5)))
    have Q4 := FS
    have T4 := heap_setCell_other (p := ⟨w.heap.size + 1 + 1, 3, none⟩) (.string ⟨#[]⟩) (heap_setCell_other (p := ⟨w.heap.size + 1 + 1, 2, none⟩) (.string ⟨#[]⟩) (heap_setCell_other (p := ⟨w.heap.size + 1 + 1, 1, none⟩) (.int .i64 0) (heap_setCell_other (p := ⟨w.heap.size + 1 + 1, 0, none⟩) (.int .i64 0) P4 (by simp)) (by simp)) (by simp)) (by simp)
    have TE := heap_setCell_other (p := ⟨w.heap.size + 1 + 1, 3, none⟩) (.string ⟨#[]⟩) (heap_setCell_other (p := ⟨w.heap.size + 1 + 1, 2, none⟩) (.string ⟨#[]⟩) (heap_setCell_other (p := ⟨w.heap.size + 1 + 1, 1, none⟩) (.int .i64 0) (heap_setCell_other (p := ⟨w.heap.size + 1 + 1, 0, none⟩) (.int .i64 0) PE (by simp; omega)) (by simp; omega)) (by simp; omega)) (by simp; omega)
    have FC := FC.trans FS
    refine hK _ _ FC ?_
    clear hK K
    try simp only [Act.put, List.setIfInBounds_toArray, List.set_cons_succ, List.set_cons_zero]
    generalize ((((V1.setCell ⟨w.heap.size + 1 + 1, 0, none⟩ (.int .i64 0)).setCell ⟨w.heap.size + 1 + 1, 1, none⟩ (.int .i64 0)).setCell ⟨w.heap.size + 1 + 1, 2, none⟩ (.string ⟨#[]⟩)).setCell ⟨w.heap.size + 1 + 1, 3, none⟩ (.string ⟨#[]⟩)) = V2 at *
    refine mix_end ?_
    have R4 : V2.heap[w.heap.size + 1]? = some (.cells #[.int .i64 (-1)] 3 (0, 0)) := by simpa using T4
    have R5 : V2.heap[w.heap.size + 1 + 1]? = some (.cells #[.int .i64 0, .int .i64 0, .string ⟨#[]⟩, .string ⟨#[]⟩] 122) := by simpa using Q5
    have HRE := Lib.hid TE
    have FW : Fr [bq] w V2 := (((GF.out.mono (fp2 := [bq]) (by simp)).trans (H2.out.trans (HFA.out.mono (by simp))))).step FC (fun i hi => by simp at hi; exact .inr (by omega))
    have FQ := FW.step (Fr.grown (fp := [E]) (grownBy_putObj' V2 E (.deferred none)) (fun k hk => by cases hk; simp)) (fun i hi => by simp at hi; exact .inr (by omega))
    have HQ := Lib.hid FQ
    clear T4 TE Q4 Q5 FS P4 P5 PE N4 N5 NE M4 M5 M8 a0 a1 a2 a3 g0 g1 g2 g3 x0 x1 x2 x3 d4 g4 FC FW FQ
    go_wp2_with fail
    refine ⟨by simp, .inl ⟨_, _, rfl, run_takeDeferred HRE.out, ?_⟩⟩
    have k4 := cell_of_blk ((World.putObj_heap_other (r := E) (o := .deferred none) (fun e => by omega)).trans R4) 0
    have k50 := cell_of_blk ((World.putObj_heap_other (r := E) (o := .deferred none) (fun e => by omega)).trans R5) 0
    have k51 := cell_of_blk ((World.putObj_heap_other (r := E) (o := .deferred none) (fun e => by omega)).trans R5) 1
    have k52 := cell_of_blk ((World.putObj_heap_other (r := E) (o := .deferred none) (fun e => by omega)).trans R5) 2
    have k53 := cell_of_blk ((World.putObj_heap_other (r := E) (o := .deferred none) (fun e => by omega)).trans R5) 3
    refine ⟨.tuple #[.int .i64 (-1), .agg #[.int .i64 0, .int .i64 0, .string ⟨#[]⟩, .string ⟨#[]⟩]], by simp [results, Tryz.results44, go_sem, k4, k50, k51, k52, k53]; try rfl, ?_⟩
    exact ⟨HQ.out, by rw [HN.out]; rfl⟩
  case stop =>
    rintro E jc pre W hE hSp ⟨rfl, pre0, x, h1, h2, h3, h4, h5, h6⟩ hK
    have HN : Hid (fstP p [] (hdsI d 0 ByteArray.empty hs) = some x) := Lib.hid (by
      obtain ⟨rest, hrest⟩ := hSp
      have hb2 : bareH pre ++ rest = hdsI d 0 ByteArray.empty hs := hrest
      rw [← hb2, h1, List.append_assoc, h3, List.singleton_append, fstP, h2]
      rfl)
    have HKE := Lib.hid hK; have H4 := Lib.hid h4; have H5 := Lib.hid h5; have H6 := Lib.hid h6
    clear h1 h2 h3 h4 h5 h6 hSp hK
    refine wpIn_wide.2 ?_
    go_wp2_with fail
    have hws := GS.out
    have FW : Fr [bq] w W := (GF.out.mono (fp2 := [bq]) (by simp)).step H4.out (fun i hi => by simp at hi ⊢; omega)
    have FQ := FW.step (Fr.grown (fp := [E]) (grownBy_putObj' W E (.deferred none)) (fun k hk => by cases hk; simp)) (fun i hi => by simp at hi; exact .inr (by omega))
    have R4 := H5.out; have R5 := H6.out
    refine ⟨by simp, .inl ⟨_, _, rfl, run_takeDeferred HKE.out, ?_⟩⟩
    have k4 := cell_of_blk ((World.putObj_heap_other (r := E) (o := .deferred none) (fun e => by omega)).trans R4) 0
    have k50 := cell_of_blk ((World.putObj_heap_other (r := E) (o := .deferred none) (fun e => by omega)).trans R5) 0
    have k51 := cell_of_blk ((World.putObj_heap_other (r := E) (o := .deferred none) (fun e => by omega)).trans R5) 1
    have k52 := cell_of_blk ((World.putObj_heap_other (r := E) (o := .deferred none) (fun e => by omega)).trans R5) 2
    have k53 := cell_of_blk ((World.putObj_heap_other (r := E) (o := .deferred none) (fun e => by omega)).trans R5) 3
    refine ⟨.tuple #[.int .i64 x.1, hxV x.2.1 x.2.2], by simp [results, Tryz.results44, go_sem, k4, k50, k51, k52, k53]; try rfl, ?_⟩
    exact ⟨FQ, by rw [HN.out]; rfl⟩

end Go.Proofs.YtahfpadaoobkfaaGreatDoor

/-
  The reference's attestations: is a seal right, is a hand shown.
-/
namespace Go.Proofs.YtahfpadaoobkfaaGreatDoor
open Go.RowKit Go.Lib

set_option maxRecDepth 100000 in
set_option maxHeartbeats 4000000 in
theorem right25_c (key : ByteArray) (d : Dl) (v : Value) (l : List Hd) (i : Nat) (w : World) (hk : key.size ≤ 1000) (hs : HdsAt w v l) (hi : i < l.length) (hl : l.length ≤ 100) (bf : ByteArray) (hbf : bf = if i = 0 then ByteArray.empty else (l.getD (i - 1) default).sig) (hd : dlB d = true) (h1 : 0 ≤ l[i].car ∧ l[i].car ≤ 7) (h2 : 0 ≤ l[i].lev ∧ l[i].lev ≤ 3) (hz : bf.size ≤ 1000) :
    Calls Tryz.prog 128 #[.string key, atV d v, .int .i64 i] w fun e w' => e = .returned (.bool (decide (l[i].sig = sealM key (cntM d i l[i] bf)))) ∧ Fr [] w w' := by
  have CC := Lib.hid fun W (hf : Fr [] w W) => content25_c d v l i W (hs.same hf) hi hl bf hbf hd h1 h2 hz
  obtain ⟨a, cap, rfl⟩ := hs.val
  obtain ⟨b, off, cp, hv, hc⟩ := hdRow_cells hs i hi
  injection hv with hv _ hv2
  subst hv hv2
  have k2 : w.cell? ⟨b, off + i * 3 + 2, none⟩ = some (.string l[i].sig) := hc 2 _ rfl
  have hcl : (str (cntM d i l[i] bf)).size ≤ 100000 := by
    rw [str_size]; exact cntM_len hd (by omega) h1 ⟨h2.1, by omega⟩ hz
  have hlen := hs.len
  have CS := Lib.hid fun W => rseal_c key (str (cntM d i l[i] bf)) (by omega) (by omega) W
  have HE : Shut (decide (l[i].sig = sealM key (cntM d i l[i] bf)) = (l[i].sig.toList == (sealM key (bts (str (cntM d i l[i] bf)))).toList)) := ⟨by rw [bts_str, strs_beq]⟩
  generalize sealM key (bts (str (cntM d i l[i] bf))) = S at *
  generalize decide (l[i].sig = sealM key (cntM d i l[i] bf)) = R at *
  generalize str (cntM d i l[i] bf) = C at *
  generalize l[i] = h at *
  obtain ⟨xc, xv, xs⟩ := h
  obtain ⟨d0, d1, d2, d3⟩ := d
  clear hs hc hbf hd h1 h2 hz
  go_enter Tryz.func128, Tryz.ntmps128
  go_wp2_with fail
  have A1 := heap_alloc_new w (.cells #[.int .i64 d0, .int .i64 d1, .int .i64 d2, .int .i64 d3, .slice (some ⟨b, off, none⟩) l.length cap] 44)
  have F1 := Fr.alloc [] w (.cells #[.int .i64 d0, .int .i64 d1, .int .i64 d2, .int .i64 d3, .slice (some ⟨b, off, none⟩) l.length cap] 44)
  have c0 := cell_of_blk A1 0; have c1 := cell_of_blk A1 1; have c2 := cell_of_blk A1 2; have c3 := cell_of_blk A1 3; have c4 := cell_of_blk A1 4
  have c5 := F1.cel k2 (by simp)
  generalize hg : w.heap.size = g at *
  generalize w.alloc _ = W0 at *
  refine reg_mix (Fr [] W0) [0, 1, 2, 3, 4, 5, 6, 7, 8, 9, 10, 11, 12] (by kernel_rfl) (by kernel_rfl) (by kernel_rfl) rfl (Fr.drew _ _) ?_
  have FC : Fr [] W0 W0.drew := Fr.drew _ _
  generalize W0.drew = WC at FC ⊢
  iterate 9 (refine mix_take1 (v := ?_) rfl rfl rfl rfl (fun w hS => ?_) ?_; rotate_left; (focus (have e0 := hS.cel c0 (by simp); have e1 := hS.cel c1 (by simp); have e2 := hS.cel c2 (by simp); have e3 := hS.cel c3 (by simp); have e4 := hS.cel c4 (by simp); have e5 := hS.cel c5 (by simp); clear hS; go_simp; rfl)); simp only [List.setIfInBounds_toArray, List.set_cons_succ, List.set_cons_zero])
  refine mix_do rfl rfl rfl (fun K hK => ?_)
  go_simp
  refine (CC.out _ (F1.trans FC)).mono ?_
  rintro e w1 ⟨rfl, f1⟩
  have FC := FC.trans f1
  clear f1
  refine hK _ _ FC ?_
  clear hK K
  try simp only [Act.put, List.setIfInBounds_toArray, List.set_cons_succ, List.set_cons_zero]
  refine mix_do rfl rfl rfl (fun K hK => ?_)
  go_simp
  refine (CS.out _).mono ?_
  rintro e w2 ⟨rfl, f1⟩
  have FC := FC.trans f1
  clear f1
  refine hK _ _ FC ?_
  clear hK K
  try simp only [Act.put, List.setIfInBounds_toArray, List.set_cons_succ, List.set_cons_zero]
  iterate 2 (refine mix_take1 (v := ?_) rfl rfl rfl rfl (fun w hS => ?_) ?_; rotate_left; (focus (clear hS; go_simp; rfl)); simp only [List.setIfInBounds_toArray, List.set_cons_succ, List.set_cons_zero])
  refine mix_end ?_
  go_wp2_with fail
  go_ret
  exact ⟨by rw [HE.out]; rfl, F1.trans FC⟩

set_option maxRecDepth 100000 in
set_option maxHeartbeats 4000000 in
theorem shown25_c (kv : Value) (keys : List ByteArray) (d : Dl) (v : Value) (l : List Hd) (i : Nat) (w : World) (hks : Sl w kv keys.length (keys.map Value.string)) (hkl : keys.length = 8) (hkz : ∀ k, k ∈ keys → k.size ≤ 1000) (hs : HdsAt w v l) (hi : i < l.length) (hl : l.length ≤ 100) (bf : ByteArray) (hbf : bf = if i = 0 then ByteArray.empty else (l.getD (i - 1) default).sig) (hd : dlB d = true) (h1 : 0 ≤ l[i].car ∧ l[i].car ≤ 7) (h2 : 0 ≤ l[i].lev ∧ l[i].lev ≤ 3) (hz : bf.size ≤ 1000) :
    Calls Tryz.prog 105 #[kv, atV d v, .int .i64 i] w fun e w' => e = .returned (.bool (shownM keys (l[i], cntM d i l[i] bf))) ∧ Fr [] w w' := by
  obtain ⟨m, hm⟩ : ∃ m : Nat, l[i].car = m := ⟨l[i].car.toNat, by omega⟩
  have hm8 : m < keys.length := by omega
  obtain ⟨ka, kc, rfl⟩ := hks.val
  obtain ⟨kb, ko, rfl, hkc⟩ := hks.at_ (by omega)
  have kq : w.cell? ⟨kb, ko + m, none⟩ = some (.string keys[m]) := hkc m _ (by simp [hm8])
  have hkl2 := hks.len
  have CR := Lib.hid fun W (hf : Fr [] w W) => right25_c keys[m] d v l i W (hkz _ (List.getElem_mem hm8)) (hs.same hf) hi hl bf hbf hd h1 h2 hz
  have HM : Hid (shownM keys (l[i], cntM d i l[i] bf) = (!decide (keys[m] = ByteArray.empty) && decide (l[i].sig = sealM keys[m] (cntM d i l[i] bf)))) := Lib.hid (by
    simp only [shownM, rightM, keyAt, hm, Int.toNat_natCast]
    rw [List.getD_eq_getElem?_getD, List.getElem?_eq_getElem hm8]; rfl)
  obtain ⟨a, cap, rfl⟩ := hs.val
  obtain ⟨b, off, cp, hv, hc⟩ := hdRow_cells hs i hi
  injection hv with hv _ hv2
  subst hv hv2
  have k0 : w.cell? ⟨b, off + i * 3, none⟩ = some (.int .i64 m) := by rw [← hm]; exact hc 0 _ rfl
  have hlen := hs.len
  generalize shownM keys (l[i], cntM d i l[i] bf) = R at *
  generalize decide (l[i].sig = sealM keys[m] (cntM d i l[i] bf)) = Z at *
  generalize keys[m] = key at *
  obtain ⟨d0, d1, d2, d3⟩ := d
  clear hs hc hbf hd h1 h2 hz hks hkz hkc hm
  have A1 := heap_alloc_new w (.cells #[.int .i64 d0, .int .i64 d1, .int .i64 d2, .int .i64 d3, .slice (some ⟨b, off, none⟩) l.length cap] 44)
  have F1 := Fr.alloc [] w (.cells #[.int .i64 d0, .int .i64 d1, .int .i64 d2, .int .i64 d3, .slice (some ⟨b, off, none⟩) l.length cap] 44)
  have c4 := cell_of_blk A1 4
  have c5 := F1.cel k0 (by simp); have c6 := F1.cel kq (by simp)
  have HF1 := Lib.hid F1
  clear k0 kq A1 F1
  by_cases hke : key = ByteArray.empty
  · have HE : Hid (R = false) := Lib.hid (by rw [HM.out]; simp [hke])
    have hq : key.toList.isEmpty = true := by rw [hke, ByteArray.toList_eq]; rfl
    clear HM CR hke
    go_enter Tryz.func105, Tryz.ntmps105
    go_wp2_with fail
    go_ret
    exact ⟨by rw [HE.out]; rfl, HF1.out⟩
  · have HE : Hid (R = Z) := Lib.hid (by rw [HM.out]; simp [hke])
    have hq : key.toList.isEmpty = false := toList_some25 hke
    clear HM hke
    go_enter Tryz.func105, Tryz.ntmps105
    go_wp2_with fail
    have F1 := HF1.out
    refine (CR.out _ F1).mono ?_
    rintro e w1 ⟨rfl, f1⟩
    have HF := Lib.hid (F1.trans f1)
    clear F1 f1 CR
    go_wp2_with fail
    go_ret
    exact ⟨by rw [HE.out]; rfl, HF.out⟩

end Go.Proofs.YtahfpadaoobkfaaGreatDoor

/-
  The reference's attestations: what a carrier can say of the last hand.
-/
namespace Go.Proofs.YtahfpadaoobkfaaGreatDoor
open Go.RowKit Go.Lib

/-- What a carrier can say of a hand with a content. -/
def saysM (keys : List ByteArray) (x : Hd × List UInt8) : Int := if shownM keys x then x.1.lev else min x.1.lev 1

set_option maxRecDepth 100000 in
set_option maxHeartbeats 4000000 in
theorem says25_c (kv : Value) (keys : List ByteArray) (d : Dl) (v : Value) (l : List Hd) (i : Nat) (w : World) (hks : Sl w kv keys.length (keys.map Value.string)) (hkl : keys.length = 8) (hkz : ∀ k, k ∈ keys → k.size ≤ 1000) (hs : HdsAt w v l) (hi : i < l.length) (hil : l.length = i + 1) (hl : l.length ≤ 100) (bf : ByteArray) (hbf : bf = if i = 0 then ByteArray.empty else (l.getD (i - 1) default).sig) (hd : dlB d = true) (h1 : 0 ≤ l[i].car ∧ l[i].car ≤ 7) (h2 : 0 ≤ l[i].lev ∧ l[i].lev ≤ 3) (hz : bf.size ≤ 1000) :
    Calls Tryz.prog 73 #[kv, atV d v] w fun e w' => e = .returned (.int .i64 (saysM keys (l[i], cntM d i l[i] bf))) ∧ Fr [] w w' := by
  have CR := Lib.hid fun W (hf : Fr [] w W) => shown25_c kv keys d v l i W (hks.same hf) hkl hkz (hs.same hf) hi hl bf hbf hd h1 h2 hz
  have HM : Hid (saysM keys (l[i], cntM d i l[i] bf) = if shownM keys (l[i], cntM d i l[i] bf) then l[i].lev else min l[i].lev 1) := Lib.hid rfl
  obtain ⟨ka, kc, rfl⟩ := hks.val
  obtain ⟨a, cap, rfl⟩ := hs.val
  obtain ⟨b, off, cp, hv, hc⟩ := hdRow_cells hs i hi
  injection hv with hv _ hv2
  subst hv hv2
  have k1 : w.cell? ⟨b, off + i * 3 + 1, none⟩ = some (.int .i64 l[i].lev) := hc 1 _ rfl
  have hlen := hs.len
  have hkl2 := hks.len
  generalize saysM keys (l[i], cntM d i l[i] bf) = R at *
  generalize shownM keys (l[i], cntM d i l[i] bf) = Z at *
  generalize l[i].lev = z at *
  obtain ⟨d0, d1, d2, d3⟩ := d
  rw [hil] at *
  clear hs hc hbf hd h1 hz hks hkz
  have A1 := heap_alloc_new w (.cells #[.int .i64 d0, .int .i64 d1, .int .i64 d2, .int .i64 d3, .slice (some ⟨b, off, none⟩) (i + 1) cap] 44)
  have F1 := Fr.alloc [] w (.cells #[.int .i64 d0, .int .i64 d1, .int .i64 d2, .int .i64 d3, .slice (some ⟨b, off, none⟩) (i + 1) cap] 44)
  have c4 := cell_of_blk A1 4
  have c5 := F1.cel k1 (by simp)
  have HF1 := Lib.hid F1
  have HC5 := Lib.hid fun W (hf : Fr [] _ W) => hf.cel c5 (by simp)
  have HC4 := Lib.hid fun W (hf : Fr [] _ W) => hf.cel c4 (by simp)
  clear k1 A1 F1
  go_enter Tryz.func73, Tryz.ntmps73
  go_wp2_with fail
  simp only [hkl] at CR
  refine (CR.out _ HF1.out).mono ?_
  rintro e w1 ⟨rfl, f1⟩
  have c4 := HC4.out _ f1
  have c5 := HC5.out _ f1
  have HF := Lib.hid (HF1.out.trans f1)
  clear f1 CR HC4 HC5
  cases Z with
  | true =>
    have HR : Hid (R = z) := Lib.hid (by rw [HM.out]; rfl)
    clear HM
    go_wp2_with fail
    go_ret
    exact ⟨by rw [HR.out]; rfl, HF.out⟩
  | false =>
    have HR : Hid (R = min z 1) := Lib.hid (by rw [HM.out]; rfl)
    clear HM
    go_wp2_with fail
    go_ret
    exact ⟨by rw [HR.out]; rfl, HF.out⟩

end Go.Proofs.YtahfpadaoobkfaaGreatDoor

/-
  Plain: a formed list of hands, one more hand; the hands' contents, one more.
-/
namespace Go.Proofs.YtahfpadaoobkfaaGreatDoor

theorem fmGo_snoc (h : Hd) : ∀ (l : List Hd) (c v : Int), fmGo c v (l ++ [h]) = (fmGo c v l && fmGo ((l.getLast?.map Hd.car).getD c) ((l.getLast?.map Hd.lev).getD v) [h])
  | [], c, v => by simp [fmGo]
  | x :: l, c, v => by
    have e : ∀ (f : Hd → Int) (z : Int), ((x :: l).getLast?.map f).getD z = (l.getLast?.map f).getD (f x) := fun f z => by
      rw [List.getLast?_cons]
      cases l.getLast? <;> rfl
    rw [e, e, List.cons_append, show ∀ m, fmGo c v (x :: m) = (isInB x.car 0 7 && !(x.car == c) && isInB x.lev 0 v && decide (x.sig.size = 32) && fmGo x.car x.lev m) from fun _ => rfl, fmGo_snoc h l, show ∀ m, fmGo c v (x :: m) = (isInB x.car 0 7 && !(x.car == c) && isInB x.lev 0 v && decide (x.sig.size = 32) && fmGo x.car x.lev m) from fun _ => rfl, Bool.and_assoc (_ && _ && _ && _)]
/-- A formed hand against the one before. -/
theorem fmGo_at : ∀ (l : List Hd) (c v : Int), fmGo c v l = true → ∀ k, (h : k + 1 < l.length) → l[k + 1].car ≠ l[k].car ∧ l[k + 1].lev ≤ l[k].lev
  | [], _, _, _, _, h => absurd h (by simp)
  | [_], _, _, _, _, h => absurd h (by simp)
  | x :: y :: l, c, v, hf, k, h => by
    rw [show fmGo c v (x :: y :: l) = (isInB x.car 0 7 && !(x.car == c) && isInB x.lev 0 v && decide (x.sig.size = 32) && fmGo x.car x.lev (y :: l)) from rfl, Bool.and_eq_true] at hf
    cases k with
    | zero =>
      have h2 := hf.2
      simp only [fmGo, isInB, Bool.and_eq_true, decide_eq_true_eq, Bool.not_eq_true', beq_eq_false_iff_ne] at h2
      exact ⟨h2.1.1.1.2, h2.1.1.2.2⟩
    | succ k => exact fmGo_at (y :: l) _ _ hf.2 k (by simpa using h)

end Go.Proofs.YtahfpadaoobkfaaGreatDoor
