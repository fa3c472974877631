/-
  attest: the iterator over hands and their contents.
-/
import Derived.RangeFuncNested
import Derived.RangeFuncBound
import Derived.RangeFuncCalls
import Derived.RangeFuncLeaves
import Derived.Shelf.Abstract
import Derived.Shelf.RegionOpen
import Derived.OwnWalkIn
import Derived.TacticsInMore
import Derived.LoopNIn
import Derived.LoopIn
import Derived.OrdersIn
import Derived.Test.YtahfpadaoobkfaaGreatDoorQS21
import Derived.Test.YtahfpadaoobkfaaGreatDoorQS11
import Derived.Test.YtahfpadaoobkfaaGreatDoorQS01
import Derived.TacticsIn
namespace Go.Proofs.YtahfpadaoobkfaaGreatDoor
open Go.RowKit Go.Shelf Go.Lib

attribute [local go_sem] Oper.semAt_some

theorem sl_valsT {w : World} {b : Nat} {ty : TypeId} {l : List Value} {n : Nat} (h : w.heap[b]? = some (.cells l.toArray ty (0, 0))) (hn : n ≤ 9223372036854775807) : Sl w (.slice (some ⟨b, 0, none⟩) n n) n l :=
  ⟨_, n, rfl, Nat.le_refl _, hn, fun _ => ⟨b, 0, rfl, fun j u hu => by
    rw [Nat.zero_add, cell_of_blk h]
    simpa using hu⟩⟩
abbrev HdX := Nat × Hd × List UInt8
/-- How a hand is handed on. -/
abbrev hdE (x : HdX) : Array Value := #[.int .i64 x.1, .agg #[.int .i64 x.2.1.car, .int .i64 x.2.1.lev, .string x.2.1.sig, .string (str x.2.2)]]
def hdsI (d : Dl) : Nat → ByteArray → List Hd → List HdX
  | _, _, [] => []
  | i, b, h :: l => (i, h, cntM d i h b) :: hdsI d (i + 1) h.sig l
/-- What a round keeps: all blocks of cells but one. -/
structure KpC (bq : Nat) (A B : World) : Prop where
  os : B.os = A.os
  tape : B.tape = A.tape
  output : B.output = A.output
  size : A.heap.size ≤ B.heap.size
  block : ∀ k o, k ≠ bq → A.heap[k]? = some o → o.isCells = true → B.heap[k]? = A.heap[k]?
theorem KpC.trans {bq : Nat} {A B C : World} (h : KpC bq A B) (k : KpC bq B C) : KpC bq A C := ⟨k.os.trans h.os, k.tape.trans h.tape, k.output.trans h.output, Nat.le_trans h.size k.size, fun i o hn ho hc => by
  have h1 := h.block i o hn ho hc
  exact (k.block i o hn (h1.trans ho) hc).trans h1⟩
theorem KpC.of {bq : Nat} {A B : World} (h : Fr [bq] A B) : KpC bq A B := ⟨h.os, h.tape, h.output, h.size, fun k o hb ho _ => h.block k (Array.getElem?_eq_some_iff.1 ho).1 (by simpa using hb)⟩
theorem KpC.cel {bq : Nat} {A B : World} (h : KpC bq A B) {k : Nat} {cs : Array Value} {ty : TypeId} {fz : Nat × Nat} (hc : A.heap[k]? = some (.cells cs ty fz)) (hb : k ≠ bq) : B.heap[k]? = some (.cells cs ty fz) := (h.block k _ hb hc rfl).trans hc
theorem KpC.put {bq : Nat} (W : World) (l : Nat) (o o' : Obj) (h : W.heap[l]? = some o) (hc : o.isCells = false) : KpC bq W (W.putObj l o') := by
  have hg := grownBy_putObj' W l o'
  exact ⟨hg.os, hg.tape, hg.output, hg.size, fun k ok _ hk hkc => hg.block k (Array.getElem?_eq_some_iff.1 hk).1 (fun e => by
    cases e
    rw [h] at hk; cases hk; rw [hc] at hkc; cases hkc)⟩

set_option maxRecDepth 100000 in
set_option maxHeartbeats 4000000 in
theorem hands1_in (n l : Nat) (d : Dl) (v : Value) (hs : List Hd) (bx bq : Nat) (hd : dlB d = true) (hcl : ∀ h, h ∈ hs → 0 ≤ h.car ∧ h.car ≤ 1000000 ∧ 0 ≤ h.lev ∧ h.lev ≤ 1000000 ∧ h.sig.size ≤ 1000) (hln : hs.length ≤ 1000)
    (J Jx : List HdX → World → Prop)
    (hbx : ∀ pre W, J pre W → W.heap[bx]? = some (.cells #[.int .i64 d.caller, .int .i64 d.called, .int .i64 d.at_, .int .i64 d.serial, v] 44 (0, 0)))
    (hrow : ∀ pre W, J pre W → ∃ a cap, v = .slice a hs.length cap ∧ (∀ (h : pre.length < hs.length), ∃ b off, a = some ⟨b, off, none⟩ ∧ ∀ j u, (hdC hs[pre.length])[j]? = some u → W.cell? ⟨b, off + pre.length * 3 + j, none⟩ = some u))
    (hY : ∀ pre m W, J pre W → pre ++ [m] <+: hdsI d 0 ByteArray.empty hs → YieldAt Fence.wide (n - 1) Tryz.prog l (hdE m) W fun e W' =>
      (e = .returned (.bool true) ∧ J (pre ++ [m]) W' ∧ KpC bq W W') ∨ (e = .returned (.bool false) ∧ Jx (pre ++ [m]) W'))
    (hJ : ∀ s A B, J s A → Fr [] A B → J s B) (W : World) (hbq : bq < W.heap.size) (h0 : J [] W) :
    CallsIn Fence.wide n Tryz.prog 80 #[.func (.yield l) #[] #[], .pointer (some ⟨bx, 0, none⟩)] W fun e W' => (∃ v, e = .returned v) ∧
      (J (hdsI d 0 ByteArray.empty hs) W' ∨ (∃ pre, pre <+: hdsI d 0 ByteArray.empty hs ∧ Jx pre W')) := by
  obtain ⟨d0, d1, d2, d3⟩ := d
  have hdl : (0 ≤ d0 ∧ d0 ≤ 99999999) ∧ (0 ≤ d1 ∧ d1 ≤ 99999999) ∧ (0 ≤ d2 ∧ d2 ≤ 10000000) ∧ (0 ≤ d3 ∧ d3 ≤ 1000000) := by
    simp only [dlB, Bool.and_eq_true, isInB_iff] at hd
    exact ⟨hd.1.1.1, hd.1.1.2, hd.1.2, hd.2⟩
  obtain ⟨a, cap, hv, _⟩ := hrow _ _ h0
  subst hv
  have HBx := Lib.hid hbx; have HRo := Lib.hid hrow; have HY := Lib.hid hY; have HJ := Lib.hid hJ; have HJ0 := Lib.hid h0; have HC := Lib.hid hcl
  simp only at HBx
  have c4 : W.cell? ⟨bx, 4, none⟩ = some (.slice a hs.length cap) := cell_of_blk (hbx _ _ h0) 4
  have hl64 : hs.length ≤ 9223372036854775807 := by omega
  clear hbx hrow hY hJ h0 hcl hd
  refine callsIn_of_wp Tryz.func80 rfl trivial ?_ rfl
  simp only [Tryz.ntmps80, List.size_toArray, List.length_cons, List.length_nil, Nat.reduceAdd, Nat.reduceSub, Array.replicate_succ, Array.replicate_zero, List.push_toArray, List.append_toArray, List.nil_append, List.cons_append]
  gi_wp2
  clear c4
  gi_loopw [3, 10] (fun bv s wr => ∃ (i : Nat) (bs : ByteArray) (pre : List HdX), i ≤ hs.length ∧ s = .int .i64 i ∧ bv = .string bs ∧ pre.length = i ∧ Hid (bs.size ≤ 1000) ∧ Hid (W.heap.size ≤ wr.heap.size) ∧ Hid (J pre wr) ∧ Hid (hdsI ⟨d0, d1, d2, d3⟩ 0 ByteArray.empty hs = pre ++ hdsI ⟨d0, d1, d2, d3⟩ i bs (hs.drop i))) (fun _ s _ => hs.length - (intOf s).toNat)
  case atStart => exact ⟨0, ⟨#[]⟩, [], Nat.zero_le _, rfl, rfl, rfl, Lib.hid (by decide), Lib.hid (Nat.le_refl _), HJ0, Lib.hid rfl⟩
  case round =>
    obtain ⟨i, bs, pre, hi, rfl, rfl, hpi, HBs, HSz, HP, HQ⟩ := hrel
    by_cases hlt : i < hs.length
    · obtain ⟨a', cap', hv', hcell⟩ := HRo.out pre wr HP.out
      cases hv'
      obtain ⟨sb, so, ha, hc⟩ := hcell (by omega)
      subst ha
      have hc' : ∀ j u, (hdC (hs[i]'hlt))[j]? = some u → wr.cell? ⟨sb, so + i * 3 + j, none⟩ = some u := by subst hpi; exact hc
      have e0 := hc' 0 _ rfl; have e1 := hc' 1 _ rfl; have e2 := hc' 2 _ rfl
      have hcx := HC.out _ (List.getElem_mem hlt)
      have HQ2 : Hid (hdsI ⟨d0, d1, d2, d3⟩ 0 ByteArray.empty hs = pre ++ (i, hs[i], cntM ⟨d0, d1, d2, d3⟩ i hs[i] bs) :: hdsI ⟨d0, d1, d2, d3⟩ (i + 1) hs[i].sig (hs.drop (i + 1))) := Lib.hid (by rw [HQ.out, List.drop_eq_getElem_cons hlt, hdsI])
      generalize hs[i] = x at *
      obtain ⟨xc, xv, xs⟩ := x
      simp only [Nat.add_zero] at e0 e1 e2 hcx
      have b0 := cell_of_blk (HBx.out _ _ HP.out) 0; have b1 := cell_of_blk (HBx.out _ _ HP.out) 1; have b2 := cell_of_blk (HBx.out _ _ HP.out) 2; have b3 := cell_of_blk (HBx.out _ _ HP.out) 3
      have hbb := blk_lt (HBx.out _ _ HP.out)
      have HCX := Lib.hid hcx
      clear hc hc' hcell HQ hcx
      gi_wp2
      clear b0 b1 b2 b3 e0 e1 e2
      have HN0 := Lib.hid (BldT.new (wr.alloc (.cells #[.int .i64 xc, .int .i64 xv, .string xs] 60)))
      have HH0 := Lib.hid ((Fr.alloc [] (wr.alloc (.cells #[.int .i64 xc, .int .i64 xv, .string xs] 60)) (.cells #[.pointer none, .slice none 0 0] 172)).keep (heap_alloc_new wr (.cells #[.int .i64 xc, .int .i64 xv, .string xs] 60)) (by simp))
      have HF0 := Lib.hid ((Fr.alloc [] wr (.cells #[.int .i64 xc, .int .i64 xv, .string xs] 60)).trans (Fr.alloc [] _ (.cells #[.pointer none, .slice none 0 0] 172)))
      have hsz2 : ((wr.alloc (.cells #[.int .i64 xc, .int .i64 xv, .string xs] 60)).alloc (.cells #[.pointer none, .slice none 0 0] 172)).heap.size = wr.heap.size + 1 + 1 := by simp
      simp only [World.size_alloc] at HN0
      generalize (wr.alloc (.cells #[.int .i64 xc, .int .i64 xv, .string xs] 60)).alloc (.cells #[.pointer none, .slice none 0 0] 172) = w0 at *
      have HS0 := Lib.hid (sl_valsT (heap_alloc_new w0 (.cells ([7, d0, d1, d2, d3, (i : Int), xc, xv].map (Value.int .i64)).toArray 3)) (n := 8) (by decide))
      rw [hsz2] at HS0
      have hcx := HCX.out
      have CI := Lib.hid (ints_c (wr.heap.size + 1) (.pointer none) (.slice none 0 0) [] (some ⟨wr.heap.size + 1 + 1, 0, none⟩) 8 [7, d0, d1, d2, d3, (i : Int), xc, xv] _ (HN0.out.fr (Fr.alloc [] w0 (.cells ([7, d0, d1, d2, d3, (i : Int), xc, xv].map (Value.int .i64)).toArray 3)) (by simp)) (.inl rfl) HS0.out (by simp [Value.ownBlock, bldTB]) (by simp; omega) (by simp))
      have HFI := Lib.hid (Fr.alloc [] w0 (.cells ([7, d0, d1, d2, d3, (i : Int), xc, xv].map (Value.int .i64)).toArray 3))
      have hszi : (w0.alloc (.cells ([7, d0, d1, d2, d3, (i : Int), xc, xv].map (Value.int .i64)).toArray 3)).heap.size = wr.heap.size + 1 + 1 + 1 := by simp [hsz2]
      clear hcx
      refine ⟨trivial, fun hh => (by cases hh), ?_⟩
      refine (callsIn_wide.2 CI.out).mono ?_
      rintro e w1 ⟨rfl, p1, v1, hp1, hb1, u1⟩
      have HB1 := Lib.hid hb1; have HP1 := Lib.hid hp1
      have hy1 : ∀ k, k ∈ bldTB (wr.heap.size + 1) v1 → wr.heap.size + 1 ≤ k := fun k hk => by
        rcases u1.sub k hk with h | h
        · simp [bldTB, Value.ownBlock] at h; omega
        · rw [hszi] at h; omega
      have HH1 := Lib.hid (u1.fr.keep (HFI.out.keep HH0.out (by simp)) (by simp [bldTB, Value.ownBlock]))
      have HF1 : Hid (Fr [] wr w1) := Lib.hid ((HF0.out.trans HFI.out).step u1.fr (fun k hk => .inr (by simp [bldTB, Value.ownBlock] at hk; omega)))
      have hflat : ([] : List UInt8) ++ [7, d0, d1, d2, d3, (i : Int), xc, xv].flatMap putN ++ bts bs = cntM ⟨d0, d1, d2, d3⟩ i ⟨xc, xv, xs⟩ bs := by
        simp [cntM, List.flatMap_cons, List.append_assoc, show putN 7 = encZ 14 from rfl]
      have HCt := Lib.hid hflat
      have hfl := putsN_len [7, d0, d1, d2, d3, (i : Int), xc, xv] (by have hcx := HCX.out; simp; omega)
      have hbs := HBs.out
      have CW := Lib.hid (bwriteT_c (wr.heap.size + 1) p1 v1 _ bs w1 HB1.out HP1.out (by simp only [List.length_append, List.length_nil, List.length_cons] at hfl ⊢; omega))
      have HY1 := Lib.hid hy1
      clear hb1 hp1 u1 hy1 CI HS0 HN0 HH0 HF0 HFI hszi hsz2 hflat hfl hbs
      gi_wp2
      refine ⟨trivial, fun hh => (by cases hh), ?_⟩
      refine (callsIn_wide.2 CW.out).mono ?_
      rintro e w2 ⟨rfl, v2, hb2, u2⟩
      rw [HCt.out] at hb2
      have hne : cntM ⟨d0, d1, d2, d3⟩ i ⟨xc, xv, xs⟩ bs ≠ [] := by
        have : (cntM ⟨d0, d1, d2, d3⟩ i ⟨xc, xv, xs⟩ bs).length ≠ 0 := by simp [cntM, encZ_one (show 14 < 128 by decide)]
        intro h; rw [h] at this; exact this rfl
      have hy2 : ∀ k, k ∈ v2.ownBlock.toList → wr.heap.size + 1 ≤ k := fun k hk => by
        rcases u2.sub k (by simp [bldTB, Option.mem_toList.1 hk]) with h | h
        · exact HY1.out k h
        · have := HF1.out.size; have := (blk_lt HH1.out); omega
      have hnot : wr.heap.size ∉ bldTB (wr.heap.size + 1) v1 := fun hm => by have := HY1.out _ hm; omega
      have HH2 := Lib.hid (u2.fr.keep HH1.out hnot)
      have HF2 : Hid (Fr [] wr w2) := Lib.hid (HF1.out.step u2.fr (fun k hk => .inr (by have := HY1.out k hk; omega)))
      have HB2 := Lib.hid hb2; have HNe := Lib.hid hne; have HY2 := Lib.hid hy2
      clear hb2 hy2 hne hnot u2 CW HB1 HP1 HF1 HH1 HY1 HCt
      generalize hC : cntM ⟨d0, d1, d2, d3⟩ i ⟨xc, xv, xs⟩ bs = C at *
      clear hC
      gi_wp2
      have FD : Fr [] w2 w2.drew := Fr.drew _ _
      have CS := Lib.hid fun W2 (hf : Fr [] w2 W2) => bstringT_c (wr.heap.size + 1) _ v2 C W2 (HB2.out.fr hf (by simp)) HNe.out
      refine wpIn_region_any (by kernel_rfl) ?_
      try (change wpAnyIn _ _ _ _ _ _ _ _ _ (World.drew _))
      have HH3 := Lib.hid (FD.keep HH2.out (by simp))
      have HFD := Lib.hid FD
      clear FD HH2
      generalize w2.drew = wd at *
      have t0 := cell_of_blk HH3.out 0; have t1 := cell_of_blk HH3.out 1; have t2 := cell_of_blk HH3.out 2
      (refine wpAnyIn_take (i := 0) (v := ?_) rfl rfl (by kernel_rfl) (by kernel_rfl) (by kernel_rfl) (fun _ _ _ h => h) ⟨Or.inl ⟨by rfl, ?_⟩, fun _ => rfl⟩ ?_; rotate_left; (focus (intro w; go_simp; try with_reducible rfl)))
      (refine wpAnyIn_take (i := 1) (v := ?_) rfl rfl (by kernel_rfl) (by kernel_rfl) (by kernel_rfl) (fun _ _ _ h => h) ⟨Or.inl ⟨by rfl, ?_⟩, fun _ => rfl⟩ ?_; rotate_left; (focus (intro w; go_simp; try with_reducible rfl)))
      (refine wpAnyIn_take (i := 3) (v := ?_) rfl rfl (by kernel_rfl) (by kernel_rfl) (by kernel_rfl) (fun _ _ _ h => h) ⟨Or.inl ⟨by rfl, ?_⟩, fun _ => rfl⟩ ?_; rotate_left; (focus (intro w; go_simp; try with_reducible rfl)))
      refine wpAnyIn_ready (rs := [2, 4]) (by kernel_rfl) (by simp) ?_
      refine AllReadyIn.cons rfl (fun K hK => ?_) (AllReadyIn.cons rfl (fun K hK => ?_) AllReadyIn.nil)
      · go_simp
        refine hK _ _ ?_
        clear hK K
        refine wpAnyIn_ready (rs := [4]) (by kernel_rfl) (by simp) ?_
        refine AllReadyIn.cons rfl (fun K hK => ?_) AllReadyIn.nil
        go_simp
        refine ⟨trivial, fun hh => (by cases hh), ?_⟩
        refine (callsIn_wide.2 (CS.out wd HFD.out)).mono ?_
        rintro e w3 ⟨rfl, f3⟩
        refine hK _ _ ?_
        clear hK K
        have HH4 := Lib.hid (f3.keep HH3.out (fun hm => by have := HY2.out _ hm; omega))
        have HF3 : Hid (Fr [] wr w3) := Lib.hid ((HF2.out.trans HFD.out).step f3 (fun k hk => .inr (by have := HY2.out k hk; omega)))
        clear t0 t1 t2 f3
        refine wpAnyIn_ready (rs := [5]) (by kernel_rfl) (by simp) ?_
        refine AllReadyIn.cons rfl (fun K hK => ?_) AllReadyIn.nil
        go_simp
        refine hK _ _ ?_
        clear hK K
        refine wpAnyIn_ready (rs := [6]) (by kernel_rfl) (by simp) ?_
        refine AllReadyIn.cons rfl (fun K hK => ?_) AllReadyIn.nil
        have HPf : Hid (pre ++ [(i, ⟨xc, xv, xs⟩, C)] <+: hdsI ⟨d0, d1, d2, d3⟩ 0 ByteArray.empty hs) := Lib.hid (by rw [HQ2.out]; exact ⟨hdsI ⟨d0, d1, d2, d3⟩ (i + 1) xs (hs.drop (i + 1)), by simp⟩)
        obtain ⟨fn, tmps, assign, body, hy, hR⟩ := HY.out pre (i, ⟨xc, xv, xs⟩, C) w3 (HJ.out _ _ _ HP.out HF3.out) HPf.out
        dsimp only [hdE] at hy
        have HRR := Lib.hid hR
        clear hR
        go_simp
        refine ⟨fun hh => (by cases hh), ?_⟩
        refine HRR.out.mono ?_
        rintro e w4 (⟨rfl, hJ4, hk4⟩ | ⟨rfl, hJx4⟩)
        · refine hK _ _ ?_
          clear hK K
          refine wpAnyIn_ready (rs := [7]) (by kernel_rfl) (by simp) ?_
          refine AllReadyIn.cons rfl (fun K hK => ?_) AllReadyIn.nil
          go_simp
          refine hK _ _ ?_
          clear hK K
          refine wpAnyIn_done (by kernel_rfl) ?_ _
          have HH5 := hk4.cel HH4.out (fun e => by have := HSz.out; omega)
          have x2 := cell_of_blk HH5 2
          have HS4 : Hid (W.heap.size ≤ w4.heap.size) := Lib.hid (Nat.le_trans HSz.out (Nat.le_trans HF3.out.size hk4.size))
          have HJ4 := Lib.hid hJ4
          have HXs : Hid (xs.size ≤ 1000) := Lib.hid HCX.out.2.2.2.2
          clear hJ4 hk4 hy HRR HH5
          gi_wp2
          go_roundw
          case rel => exact ⟨i + 1, xs, pre ++ [(i, ⟨xc, xv, xs⟩, C)], hlt, by go_num, rfl, by rw [List.length_append, hpi]; rfl, HXs, HS4, HJ4, Lib.hid (by rw [HQ2.out, List.append_assoc]; rfl)⟩
          case measure => simp [intOf]; omega
        · refine hK _ _ ?_
          clear hK K
          refine wpAnyIn_ready (rs := [7]) (by kernel_rfl) (by simp) ?_
          refine AllReadyIn.cons rfl (fun K hK => ?_) AllReadyIn.nil
          go_simp
          refine hK _ _ ?_
          clear hK K
          refine wpAnyIn_done (by kernel_rfl) ?_ _
          have HJx4 := Lib.hid hJx4
          clear hJx4 hy HRR
          gi_wp2
          refine bodyPost_ret (results_none rfl _ _ _) rfl ?_
          exact ⟨⟨_, rfl⟩, .inr ⟨_, HPf.out, HJx4.out⟩⟩
      · go_simp
        refine ⟨trivial, fun hh => (by cases hh), ?_⟩
        refine (callsIn_wide.2 (CS.out wd HFD.out)).mono ?_
        rintro e w3 ⟨rfl, f3⟩
        refine hK _ _ ?_
        clear hK K
        have HH4 := Lib.hid (f3.keep HH3.out (fun hm => by have := HY2.out _ hm; omega))
        have HF3 : Hid (Fr [] wr w3) := Lib.hid ((HF2.out.trans HFD.out).step f3 (fun k hk => .inr (by have := HY2.out k hk; omega)))
        refine wpAnyIn_ready (rs := [2]) (by kernel_rfl) (by simp) ?_
        refine AllReadyIn.cons rfl (fun K hK => ?_) AllReadyIn.nil
        have t0 := cell_of_blk HH4.out 0; have t1 := cell_of_blk HH4.out 1; have t2 := cell_of_blk HH4.out 2
        go_simp
        refine hK _ _ ?_
        clear hK K
        clear t0 t1 t2 f3
        refine wpAnyIn_ready (rs := [5]) (by kernel_rfl) (by simp) ?_
        refine AllReadyIn.cons rfl (fun K hK => ?_) AllReadyIn.nil
        go_simp
        refine hK _ _ ?_
        clear hK K
        refine wpAnyIn_ready (rs := [6]) (by kernel_rfl) (by simp) ?_
        refine AllReadyIn.cons rfl (fun K hK => ?_) AllReadyIn.nil
        have HPf : Hid (pre ++ [(i, ⟨xc, xv, xs⟩, C)] <+: hdsI ⟨d0, d1, d2, d3⟩ 0 ByteArray.empty hs) := Lib.hid (by rw [HQ2.out]; exact ⟨hdsI ⟨d0, d1, d2, d3⟩ (i + 1) xs (hs.drop (i + 1)), by simp⟩)
        obtain ⟨fn, tmps, assign, body, hy, hR⟩ := HY.out pre (i, ⟨xc, xv, xs⟩, C) w3 (HJ.out _ _ _ HP.out HF3.out) HPf.out
        dsimp only [hdE] at hy
        have HRR := Lib.hid hR
        clear hR
        go_simp
        refine ⟨fun hh => (by cases hh), ?_⟩
        refine HRR.out.mono ?_
        rintro e w4 (⟨rfl, hJ4, hk4⟩ | ⟨rfl, hJx4⟩)
        · refine hK _ _ ?_
          clear hK K
          refine wpAnyIn_ready (rs := [7]) (by kernel_rfl) (by simp) ?_
          refine AllReadyIn.cons rfl (fun K hK => ?_) AllReadyIn.nil
          go_simp
          refine hK _ _ ?_
          clear hK K
          refine wpAnyIn_done (by kernel_rfl) ?_ _
          have HH5 := hk4.cel HH4.out (fun e => by have := HSz.out; omega)
          have x2 := cell_of_blk HH5 2
          have HS4 : Hid (W.heap.size ≤ w4.heap.size) := Lib.hid (Nat.le_trans HSz.out (Nat.le_trans HF3.out.size hk4.size))
          have HJ4 := Lib.hid hJ4
          have HXs : Hid (xs.size ≤ 1000) := Lib.hid HCX.out.2.2.2.2
          clear hJ4 hk4 hy HRR HH5
          gi_wp2
          go_roundw
          case rel => exact ⟨i + 1, xs, pre ++ [(i, ⟨xc, xv, xs⟩, C)], hlt, by go_num, rfl, by rw [List.length_append, hpi]; rfl, HXs, HS4, HJ4, Lib.hid (by rw [HQ2.out, List.append_assoc]; rfl)⟩
          case measure => simp [intOf]; omega
        · refine hK _ _ ?_
          clear hK K
          refine wpAnyIn_ready (rs := [7]) (by kernel_rfl) (by simp) ?_
          refine AllReadyIn.cons rfl (fun K hK => ?_) AllReadyIn.nil
          go_simp
          refine hK _ _ ?_
          clear hK K
          refine wpAnyIn_done (by kernel_rfl) ?_ _
          have HJx4 := Lib.hid hJx4
          clear hJx4 hy HRR
          gi_wp2
          refine bodyPost_ret (results_none rfl _ _ _) rfl ?_
          exact ⟨⟨_, rfl⟩, .inr ⟨_, HPf.out, HJx4.out⟩⟩
    · obtain rfl : i = hs.length := by omega
      gi_wp2
      go_end0
      exact ⟨⟨_, rfl⟩, .inl (by have h := HQ.out; rw [List.drop_length, hdsI, List.append_nil] at h; rw [h]; exact HP.out)⟩

end Go.Proofs.YtahfpadaoobkfaaGreatDoor

/-
  digest: Leaf, Node.
-/
namespace Go.Proofs.YtahfpadaoobkfaaGreatDoor
open Go.RowKit Go.Lib

theorem join1 (h : ByteArray) : Lib.join ([h].map (·.data.toList)) (⟨#[]⟩ : ByteArray).data.toList = bts h := by simp [Lib.join, bts]
theorem marked_c (m : ByteArray) (w : World) : Calls Tryz.prog 110 #[.string m] w fun e w' => e = .returned (.func (.func 133) #[] #[.pointer (some ⟨w.heap.size, 0, none⟩)]) ∧ w' = w.alloc (.cells #[.string m] 9) := by
  go_enter Tryz.func110, Tryz.ntmps110
  go_wp2_with fail
  go_ret
  exact ⟨rfl, rfl⟩

theorem join2 (h r : ByteArray) : Lib.join ([h, r].map (·.data.toList)) (⟨#[]⟩ : ByteArray).data.toList = bts h ++ bts r := by simp [Lib.join, bts]

set_option maxRecDepth 100000 in
set_option maxHeartbeats 4000000 in
theorem marked1_c (m h r : ByteArray) (hs : m.size + h.size + r.size ≤ 1000000000000) (b mb : Nat) (w : World) (hR : RndAt w) (hm : w.heap[mb]? = some (.cells #[.string m] 9 (0, 0))) (hb : w.heap[b]? = some (.cells #[.string h, .string r] 9 (0, 0))) :
    Calls Tryz.prog 133 #[.slice (some ⟨b, 0, none⟩) 2 2, .pointer (some ⟨mb, 0, none⟩)] w fun e w' => e = .returned (.string (shaB (str (bts m ++ (bts h ++ bts r))))) ∧ Fr [] w w' := by
  have CJ : ∀ W : World, Fr [] w W → Calls Tryz.prog 135 #[.slice (some ⟨b, 0, none⟩) 2 2, .string ⟨#[]⟩] W fun e w' => e = .returned (.string (str (bts h ++ bts r))) ∧ Fr [] W w' := by
    intro W hf
    have hb2 := hf.keep hb (by simp)
    have h1 := Tryz.strings_Join b 0 2 [h, r] ⟨#[]⟩ W (by
      intro j x hx
      rw [cell_of_blk hb2]
      match j, hx with
      | 0, hx => simp at hx ⊢; exact hx
      | 1, hx => simp at hx ⊢; exact hx
      | j + 2, hx => simp at hx) (blk_lt hb2) (by simp) (by simp) (by rw [join2, List.length_append, bts_len, bts_len]; omega)
    rw [join2] at h1
    exact h1.mono fun e w' ⟨he, hbw⟩ => ⟨he, Fr.of_below [] hbw⟩
  have CS : ∀ W : World, Fr [] w W → Calls Tryz.prog 134 #[.string (str (bts m ++ (bts h ++ bts r)))] W fun e w' => e = .returned (.string (shaB (str (bts m ++ (bts h ++ bts r))))) ∧ Fr [] W w' := fun W hf =>
    sum_c _ (by rw [str_size]; simp only [List.length_append, bts_len]; omega) W (hR.same hf (by simp))
  have HJ := Lib.hid CJ; have HS := Lib.hid CS
  have c0 := cell_of_blk hm 0
  have hsz : (str (bts h ++ bts r)).size = h.size + r.size := by rw [str_size]; simp only [List.length_append, bts_len]
  have hcat : m ++ str (bts h ++ bts r) = str (bts m ++ (bts h ++ bts r)) := by
    apply ByteArray.ext; simp [str, bts]
  have HC := Lib.hid hcat
  have HZ := Lib.hid hsz
  clear CJ CS hm hb hR hsz hcat
  go_enter Tryz.func133, Tryz.ntmps133
  go_wp2_with fail
  refine reg_mix (Fr [] w) [0, 1, 2, 3, 4, 5] (by kernel_rfl) (by kernel_rfl) (by kernel_rfl) rfl (Fr.drew _ _) ?_
  have FC : Fr [] w w.drew := Fr.drew _ _
  generalize w.drew = WC at FC ⊢
  iterate 2 (refine mix_take1 (v := ?_) rfl rfl rfl rfl (fun w hS => ?_) ?_; rotate_left; (focus (have s0 := hS.cel c0 (by simp); clear hS; go_simp; rfl)); simp only [List.setIfInBounds_toArray, List.set_cons_succ, List.set_cons_zero])
  refine mix_do rfl rfl rfl (fun K hK => ?_)
  go_simp
  refine (HJ.out _ FC).mono ?_
  rintro e wq ⟨rfl, fq⟩
  have FC := FC.trans fq
  refine hK _ _ FC ?_
  clear hK K fq
  try simp only [Act.put, List.setIfInBounds_toArray, List.set_cons_succ, List.set_cons_zero]
  (refine mix_take1 (v := ?_) rfl rfl rfl rfl (fun w hS => ?_) ?_; rotate_left; (focus (clear hS; go_simp; rw [if_neg (by rw [HZ.out]; omega), HC.out])); simp only [List.setIfInBounds_toArray, List.set_cons_succ, List.set_cons_zero])
  refine mix_do rfl rfl rfl (fun K hK => ?_)
  go_simp
  refine (HS.out _ FC).mono ?_
  rintro e wr ⟨rfl, fq⟩
  have FC := FC.trans fq
  refine hK _ _ FC ?_
  clear hK K fq
  try simp only [Act.put, List.setIfInBounds_toArray, List.set_cons_succ, List.set_cons_zero]
  (refine mix_take1 (v := ?_) rfl rfl rfl rfl (fun w hS => ?_) ?_; rotate_left; (focus (clear hS; go_simp; rfl)); simp only [List.setIfInBounds_toArray, List.set_cons_succ, List.set_cons_zero])
  refine mix_end ?_
  have HF := Lib.hid FC
  clear FC c0
  go_wp2_with fail
  go_ret
  exact ⟨rfl, HF.out⟩

set_option maxRecDepth 100000 in
set_option maxHeartbeats 4000000 in
theorem marked1a_c (m h : ByteArray) (hs : m.size + h.size ≤ 1000000000000) (b mb : Nat) (w : World) (hR : RndAt w) (hm : w.heap[mb]? = some (.cells #[.string m] 9 (0, 0))) (hb : w.heap[b]? = some (.cells #[.string h] 9 (0, 0))) :
    Calls Tryz.prog 133 #[.slice (some ⟨b, 0, none⟩) 1 1, .pointer (some ⟨mb, 0, none⟩)] w fun e w' => e = .returned (.string (shaB (str (bts m ++ (bts h))))) ∧ Fr [] w w' := by
  have CJ : ∀ W : World, Fr [] w W → Calls Tryz.prog 135 #[.slice (some ⟨b, 0, none⟩) 1 1, .string ⟨#[]⟩] W fun e w' => e = .returned (.string (str (bts h))) ∧ Fr [] W w' := by
    intro W hf
    have hb2 := hf.keep hb (by simp)
    have h1 := Tryz.strings_Join b 0 1 [h] ⟨#[]⟩ W (by
      intro j x hx
      rw [cell_of_blk hb2]
      match j, hx with
      | 0, hx => simp at hx ⊢; exact hx
      | j + 1, hx => simp at hx) (blk_lt hb2) (by simp) (by simp) (by rw [join1, bts_len]; omega)
    rw [join1] at h1
    exact h1.mono fun e w' ⟨he, hbw⟩ => ⟨he, Fr.of_below [] hbw⟩
  have CS : ∀ W : World, Fr [] w W → Calls Tryz.prog 134 #[.string (str (bts m ++ (bts h)))] W fun e w' => e = .returned (.string (shaB (str (bts m ++ (bts h))))) ∧ Fr [] W w' := fun W hf =>
    sum_c _ (by rw [str_size]; simp only [List.length_append, bts_len]; omega) W (hR.same hf (by simp))
  have HJ := Lib.hid CJ; have HS := Lib.hid CS
  have c0 := cell_of_blk hm 0
  have hsz : (str (bts h)).size = h.size := by rw [str_size]; simp only [bts_len]
  have hcat : m ++ str (bts h) = str (bts m ++ (bts h)) := by
    apply ByteArray.ext; simp [str, bts]
  have HC := Lib.hid hcat
  have HZ := Lib.hid hsz
  clear CJ CS hm hb hR hsz hcat
  go_enter Tryz.func133, Tryz.ntmps133
  go_wp2_with fail
  refine reg_mix (Fr [] w) [0, 1, 2, 3, 4, 5] (by kernel_rfl) (by kernel_rfl) (by kernel_rfl) rfl (Fr.drew _ _) ?_
  have FC : Fr [] w w.drew := Fr.drew _ _
  generalize w.drew = WC at FC ⊢
  iterate 2 (refine mix_take1 (v := ?_) rfl rfl rfl rfl (fun w hS => ?_) ?_; rotate_left; (focus (have s0 := hS.cel c0 (by simp); clear hS; go_simp; rfl)); simp only [List.setIfInBounds_toArray, List.set_cons_succ, List.set_cons_zero])
  refine mix_do rfl rfl rfl (fun K hK => ?_)
  go_simp
  refine (HJ.out _ FC).mono ?_
  rintro e wq ⟨rfl, fq⟩
  have FC := FC.trans fq
  refine hK _ _ FC ?_
  clear hK K fq
  try simp only [Act.put, List.setIfInBounds_toArray, List.set_cons_succ, List.set_cons_zero]
  (refine mix_take1 (v := ?_) rfl rfl rfl rfl (fun w hS => ?_) ?_; rotate_left; (focus (clear hS; go_simp; rw [if_neg (by rw [HZ.out]; omega), HC.out])); simp only [List.setIfInBounds_toArray, List.set_cons_succ, List.set_cons_zero])
  refine mix_do rfl rfl rfl (fun K hK => ?_)
  go_simp
  refine (HS.out _ FC).mono ?_
  rintro e wr ⟨rfl, fq⟩
  have FC := FC.trans fq
  refine hK _ _ FC ?_
  clear hK K fq
  try simp only [Act.put, List.setIfInBounds_toArray, List.set_cons_succ, List.set_cons_zero]
  (refine mix_take1 (v := ?_) rfl rfl rfl rfl (fun w hS => ?_) ?_; rotate_left; (focus (clear hS; go_simp; rfl)); simp only [List.setIfInBounds_toArray, List.set_cons_succ, List.set_cons_zero])
  refine mix_end ?_
  have HF := Lib.hid FC
  clear FC c0
  go_wp2_with fail
  go_ret
  exact ⟨rfl, HF.out⟩

set_option maxRecDepth 100000 in
theorem leaf_c (s : ByteArray) (hs : s.size ≤ 900000000000) (w : World) (hR : RndAt w) : Calls Tryz.prog 85 #[.string s] w fun e w' => e = .returned (.string (leafM (bts s))) ∧ Fr [] w w' := by
  have HR := Lib.hid hR
  clear hR
  go_enter Tryz.func85, Tryz.ntmps85
  go_wp2_with fail
  refine (marked_c _ _).mono ?_
  rintro e w1 ⟨rfl, hw1⟩
  have F1 := Fr.alloc [] w (.cells #[.string ⟨#[0]⟩] 9)
  have B1 := heap_alloc_new w (.cells #[.string ⟨#[0]⟩] 9)
  rw [← hw1] at F1 B1
  have F2 := Fr.alloc [] w1 (.cells #[.string s] 9)
  have CM := Lib.hid (marked1a_c ⟨#[0]⟩ s (by show 1 + s.size ≤ _; omega) w1.heap.size w.heap.size _ (HR.out.same (F1.trans F2) (by simp)) (F2.keep B1 (by simp)) (heap_alloc_new _ _))
  have HF := Lib.hid (F1.trans F2)
  clear hw1 F1 B1 F2
  go_wp2_with fail
  refine CM.out.mono ?_
  rintro e w2 ⟨rfl, f2⟩
  have HF2 := Lib.hid (HF.out.trans f2)
  clear f2
  go_wp2_with fail
  go_ret
  exact ⟨rfl, HF2.out⟩
set_option maxRecDepth 100000 in
theorem node_c (h r : ByteArray) (hs : h.size + r.size ≤ 900000000000) (w : World) (hR : RndAt w) : Calls Tryz.prog 84 #[.string h, .string r] w fun e w' => e = .returned (.string (nodeM h r)) ∧ Fr [] w w' := by
  have HR := Lib.hid hR
  clear hR
  go_enter Tryz.func84, Tryz.ntmps84
  go_wp2_with fail
  refine (marked_c _ _).mono ?_
  rintro e w1 ⟨rfl, hw1⟩
  have F1 := Fr.alloc [] w (.cells #[.string ⟨#[1]⟩] 9)
  have B1 := heap_alloc_new w (.cells #[.string ⟨#[1]⟩] 9)
  rw [← hw1] at F1 B1
  have F2 := Fr.alloc [] w1 (.cells #[.string h, .string r] 9)
  have CM := Lib.hid (marked1_c ⟨#[1]⟩ h r (by show 1 + h.size + r.size ≤ _; omega) w1.heap.size w.heap.size _ (HR.out.same (F1.trans F2) (by simp)) (F2.keep B1 (by simp)) (heap_alloc_new _ _))
  have HF := Lib.hid (F1.trans F2)
  clear hw1 F1 B1 F2
  go_wp2_with fail
  refine CM.out.mono ?_
  rintro e w2 ⟨rfl, f2⟩
  have HF2 := Lib.hid (HF.out.trans f2)
  clear f2
  go_wp2_with fail
  go_ret
  exact ⟨rfl, HF2.out⟩

end Go.Proofs.YtahfpadaoobkfaaGreatDoor

/-
  attest: the right seal of a hand; which hands are shown.
-/
namespace Go.Proofs.YtahfpadaoobkfaaGreatDoor
open Go.RowKit Go.Lib

abbrev hxV (h : Hd) (c : List UInt8) : Value := .agg #[.int .i64 h.car, .int .i64 h.lev, .string h.sig, .string (str c)]
theorem cell_ltT {w : World} {b i : Nat} {v : Value} (h : w.cell? ⟨b, i, none⟩ = some v) : b < w.heap.size := by
  rcases Nat.lt_or_ge b w.heap.size with h' | h'
  · exact h'
  · simp [World.cell?, Array.getElem?_eq_none h'] at h
theorem leafM_size (c : List UInt8) : (leafM c).size = 32 := shaB_size _

set_option maxRecDepth 100000 in
theorem seal_c (h : Hd) (c : List UInt8) (key : ByteArray) (w : World) (hR : RndAt w) (hc : c.length ≤ 1000000) (hk : key.size ≤ 1000000) : Calls Tryz.prog 47 #[hxV h c, .string key] w fun e w' => e = .returned (.string (sealM key c)) ∧ Fr [] w w' := by
  obtain ⟨xc, xv, xs⟩ := h
  have HR := Lib.hid hR
  have HM : Shut (sealM key c = nodeM key (leafM c)) := ⟨rfl⟩
  have CL := Lib.hid fun (W : World) (hf : Fr [] w W) => leaf_c (str c) (by rw [str_size]; omega) W (hR.same hf (by simp))
  have hz := leafM_size c
  have CN := Lib.hid fun (W : World) (hf : Fr [] w W) => node_c key (leafM c) (by omega) W (hR.same hf (by simp))
  rw [bts_str] at CL
  have FA := Lib.hid (Fr.alloc [] w (.cells #[.int .i64 xc, .int .i64 xv, .string xs, .string (str c)] 122))
  clear hR hz
  unfold hxV
  simp only
  generalize leafM c = L at *
  generalize sealM key c = S at *
  generalize str c = C at *
  go_enter Tryz.func47, Tryz.ntmps47
  go_wp2_with fail
  refine (CL.out _ FA.out).mono ?_
  rintro e w1 ⟨rfl, f1⟩
  have F1 := Lib.hid (FA.out.trans f1)
  clear f1 CL
  go_wp2_with fail
  refine (CN.out _ F1.out).mono ?_
  rintro e w2 ⟨rfl, f2⟩
  have F2 := Lib.hid (F1.out.trans f2)
  clear f2 CN
  go_wp2_with fail
  go_ret
  exact ⟨by rw [HM.out]; rfl, F2.out⟩

theorem strs_beq (s t : ByteArray) : (s.toList == t.toList) = decide (s = t) := by
  rw [ByteArray.toList_eq, ByteArray.toList_eq]
  by_cases h : s = t
  · subst h; simp
  · rw [decide_eq_false h, beq_eq_false_iff_ne]
    intro e; apply h; exact ByteArray.ext (Array.ext' e)
theorem toList_some {s : ByteArray} (h : s ≠ ByteArray.empty) : s.toList.isEmpty = false := by
  rw [ByteArray.toList_eq]
  cases hl : s.data.toList with
  | nil => exact absurd (ByteArray.ext (Array.ext' hl)) h
  | cons x l => rfl
set_option maxRecDepth 100000 in
set_option maxHeartbeats 1000000 in
theorem shown_c (h : Hd) (c : List UInt8) (v : Value) (keys : List ByteArray) (w : World) (hR : RndAt w) (hc : c.length ≤ 1000000) (hs : Sl w v keys.length (keys.map Value.string)) (hk : ∀ k, k ∈ keys → k.size ≤ 1000000) (hcar : 0 ≤ h.car ∧ h.car < keys.length) :
    Calls Tryz.prog 87 #[hxV h c, v] w fun e w' => e = .returned (.bool (shownM keys (h, c))) ∧ Fr [] w w' := by
  obtain ⟨xc, xv, xs⟩ := h
  simp only at hcar
  obtain ⟨m, rfl⟩ := Int.eq_ofNat_of_zero_le hcar.1
  have hm : m < keys.length := by omega
  have hln := hs.len
  obtain ⟨a, cap, rfl⟩ := hs.val
  obtain ⟨kb, ko, rfl, hcl⟩ := hs.at_ (by omega)
  have k0 : w.cell? ⟨kb, ko + m, none⟩ = some (.string keys[m]) := hcl m _ (by simp [hm])
  have hkm := hk _ (List.getElem_mem hm)
  have HM : Shut (shownM keys (⟨(m : Int), xv, xs⟩, c) = (!decide (keys[m] = ByteArray.empty) && decide (xs = sealM keys[m] c))) := ⟨by
    simp only [shownM, rightM, keyAt, Int.toNat_natCast, List.getD_eq_getElem?_getD, List.getElem?_eq_getElem hm, Option.getD_some]⟩
  have CS := Lib.hid fun (W : World) (hf : Fr [] w W) => seal_c ⟨(m : Int), xv, xs⟩ c keys[m] W (hR.same hf (by simp)) hc hkm
  have FA := Lib.hid (Fr.alloc [] w (.cells #[.int .i64 (m : Int), .int .i64 xv, .string xs, .string (str c)] 122))
  have BA := heap_alloc_new w (.cells #[.int .i64 (m : Int), .int .i64 xv, .string xs, .string (str c)] 122)
  have hkb := cell_ltT k0
  clear hcl hR hs hk hcar hkm
  generalize keys[m] = key at *
  generalize sealM key c = S at *
  unfold hxV at CS ⊢
  simp only at CS ⊢
  have hw1 : Fr [] w (w.alloc (.cells #[.int .i64 (m : Int), .int .i64 xv, .string xs, .string (str c)] 122)) := FA.out
  by_cases hke : key = ByteArray.empty
  · subst hke
    have HE : Shut (shownM keys (⟨(m : Int), xv, xs⟩, c) = false) := ⟨by rw [HM.out]; simp⟩
    clear HM
    go_enter Tryz.func87, Tryz.ntmps87
    go_wp2_with fail
    have c0 := cell_of_blk BA 0; have c1 := cell_of_blk BA 1; have c2 := cell_of_blk BA 2; have c3 := cell_of_blk BA 3
    generalize w.heap.size = hb at *
    generalize w.alloc (.cells #[.int .i64 (m : Int), .int .i64 xv, .string xs, .string (str c)] 122) = w1 at *
    refine reg_mix (Fr [] w1) [0, 1, 2, 3, 4, 5, 6, 7, 8, 9, 10, 11] (by kernel_rfl) (by kernel_rfl) (by kernel_rfl) rfl (Fr.drew _ _) ?_
    have FC : Fr [] w1 w1.drew := Fr.drew _ _
    generalize w1.drew = WC at FC ⊢
    iterate 3 (refine mix_take1 (v := ?_) rfl rfl rfl rfl (fun w hS => ?_) ?_; rotate_left; (focus (have e0 := hS.cel c0 (by simp); have e1 := hS.cel c1 (by simp); have e2 := hS.cel c2 (by simp); have e3 := hS.cel c3 (by simp); clear hS; go_simp; rfl)); simp only [List.setIfInBounds_toArray, List.set_cons_succ, List.set_cons_zero])
    iterate 7 (refine mix_skipT rfl rfl rfl rfl rfl FC ?_; simp only [List.setIfInBounds_toArray, List.set_cons_succ, List.set_cons_zero])
    iterate 2 (refine mix_take1 (v := ?_) rfl rfl rfl rfl (fun w hS => ?_) ?_; rotate_left; (focus (have e0 := hS.cel c0 (by simp); have e1 := hS.cel c1 (by simp); have e2 := hS.cel c2 (by simp); have e3 := hS.cel c3 (by simp); clear hS; go_simp; rfl)); simp only [List.setIfInBounds_toArray, List.set_cons_succ, List.set_cons_zero])
    refine mix_end ?_

    go_wp2_with fail
    go_ret
    exact ⟨by rw [HE.out]; rfl, hw1.trans FC⟩
  · have hq1 : decide (key = ByteArray.empty) = false := decide_eq_false hke
    have hq2 : key.toList.isEmpty = false := toList_some hke
    have HE : Shut (shownM keys (⟨(m : Int), xv, xs⟩, c) = (xs.toList == S.toList)) := ⟨by rw [HM.out, hq1, strs_beq]; rfl⟩
    clear HM hke hq1
    go_enter Tryz.func87, Tryz.ntmps87
    go_wp2_with fail
    have c0 := cell_of_blk BA 0; have c1 := cell_of_blk BA 1; have c2 := cell_of_blk BA 2; have c3 := cell_of_blk BA 3
    generalize w.heap.size = hb at *
    generalize w.alloc (.cells #[.int .i64 (m : Int), .int .i64 xv, .string xs, .string (str c)] 122) = w1 at *
    refine reg_mix (Fr [] w1) [0, 1, 2, 3, 4, 5, 6, 7, 8, 9, 10, 11] (by kernel_rfl) (by kernel_rfl) (by kernel_rfl) rfl (Fr.drew _ _) ?_
    have FC : Fr [] w1 w1.drew := Fr.drew _ _
    generalize w1.drew = WC at FC ⊢
    iterate 3 (refine mix_take1 (v := ?_) rfl rfl rfl rfl (fun w hS => ?_) ?_; rotate_left; (focus (have e0 := hS.cel c0 (by simp); have e1 := hS.cel c1 (by simp); have e2 := hS.cel c2 (by simp); have e3 := hS.cel c3 (by simp); clear hS; go_simp; rfl)); simp only [List.setIfInBounds_toArray, List.set_cons_succ, List.set_cons_zero])
    iterate 5 (refine mix_takeg (v := ?_) rfl rfl rfl rfl rfl rfl (fun w hS => ?_) ?_; rotate_left; (focus (have e0 := hS.cel c0 (by simp); have e1 := hS.cel c1 (by simp); have e2 := hS.cel c2 (by simp); have e3 := hS.cel c3 (by simp); clear hS; go_simp; rfl)); simp only [List.setIfInBounds_toArray, List.set_cons_succ, List.set_cons_zero])
    refine mix_dog rfl rfl rfl rfl rfl (fun K hK => ?_)
    go_simp
    refine (CS.out _ (hw1.trans FC)).mono ?_
    rintro e wq ⟨rfl, fq⟩
    have FC := FC.trans fq
    clear fq
    refine hK _ _ FC ?_
    clear hK K
    try simp only [Act.put, List.setIfInBounds_toArray, List.set_cons_succ, List.set_cons_zero]
    (refine mix_takeg (v := ?_) rfl rfl rfl rfl rfl rfl (fun w hS => ?_) ?_; rotate_left; (focus (have e0 := hS.cel c0 (by simp); have e1 := hS.cel c1 (by simp); have e2 := hS.cel c2 (by simp); have e3 := hS.cel c3 (by simp); clear hS; go_simp; rfl)); simp only [List.setIfInBounds_toArray, List.set_cons_succ, List.set_cons_zero])
    iterate 2 (refine mix_take1 (v := ?_) rfl rfl rfl rfl (fun w hS => ?_) ?_; rotate_left; (focus (have e0 := hS.cel c0 (by simp); have e1 := hS.cel c1 (by simp); have e2 := hS.cel c2 (by simp); have e3 := hS.cel c3 (by simp); clear hS; go_simp; rfl)); simp only [List.setIfInBounds_toArray, List.set_cons_succ, List.set_cons_zero])
    refine mix_end ?_

    go_wp2_with fail
    go_ret
    exact ⟨by rw [HE.out]; rfl, hw1.trans FC⟩

end Go.Proofs.YtahfpadaoobkfaaGreatDoor

/-
  A region that draws its order, in the round of a range over a function.
-/
namespace Go.Proofs.YtahfpadaoobkfaaGreatDoor

section
variable {P : Program} {ops : Array Oper} {Q : Exit → Act → World → Prop}

theorem wpOpIn_of {n l i : Nat} (hd : ∀ o, o ∈ ops.toList → ∀ c, o.op ≠ .defer c) (hL : ¬ LetsOut Q) {K K' : Act → World → Prop} (hK : ∀ a w, K a w → K' a w) {a : Act} {w : World} (h : wpOp P ops Q i K a w) : wpOpIn (Fence.wide.inRound l) n P ops Q i K' a w := by
  unfold wpOp at h
  unfold wpOpIn
  cases ho : ops[i]? with
  | none => rw [ho] at h; exact hK _ _ h
  | some o =>
    rw [ho] at h
    simp only at h ⊢
    split
    · rename_i hw
      simp only [hw, if_true] at h
      have h := h.resolve_right (fun hh => hL hh.2)
      refine ⟨fun f _ => trivial, ?_⟩
      rw [Oper.semAt_eq _ _ _ (hd o (by
        obtain ⟨hi, rfl⟩ := Array.getElem?_eq_some_iff.1 ho
        exact Array.mem_toList_iff.2 (Array.getElem_mem hi)))]
      unfold Oper.wp at h
      generalize (execOp a.eval o).run P w = r at h ⊢
      cases r with
      | ok x w' =>
        cases x with
        | value v => exact hK _ _ h
        | skip => exact hK _ _ h
        | defer d => exact hK _ _ h
        | enter f args =>
          refine ⟨fun hh => (by cases hh), CallsIn.inRound l (callsIn_wide.2 (Calls.mono h ?_))⟩
          intro e w'' he
          cases e with
          | returned v => exact hK _ _ he
          | panicked ch => exact he
          | outgrown => exact he
        | row row args =>
          refine ⟨fun hh => (by cases hh), fun c cs _ => ?_⟩
          obtain ⟨v, w'', hr, hs⟩ := h c cs
          exact ⟨v, w'', hK _ _ hr, stepsIn_wide.2 hs⟩
        | round l f tmps assign body => exact h.elim
        | _ => exact h.elim
      | halt x w' =>
        cases x with
        | panic v => exact h
        | _ => exact h.elim
    · rename_i hw
      simp only [hw] at h
      exact ⟨fun f _ => trivial, hK _ _ h⟩

theorem wpAnyIn_of_wpAny {n l : Nat} {md : Region.Mode} (hd : ∀ o, o ∈ ops.toList → ∀ c, o.op ≠ .defer c) (hL : ¬ LetsOut Q) : ∀ (fuel : Nat) (listed : Array Bool) (a : Act) (w : World), wpAny P md ops Q fuel listed a w → wpAnyIn (Fence.wide.inRound l) n P md ops Q fuel listed a w
  | 0, _, _, _, h => h
  | fuel + 1, _listed, _a, _w, h => ⟨h.1, fun i hi => wpOpIn_of hd hL (fun a' w' h' => wpAnyIn_of_wpAny hd hL fuel _ a' w' h') (h.2 i hi)⟩

/-- Is no operation a defer statement? -/
def noDeferB (l : List Oper) : Bool := l.all fun o => match o.op with | .defer _ => false | _ => true
theorem noDefer_of {l : List Oper} (h : noDeferB l = true) : ∀ o, o ∈ l.toArray.toList → ∀ c, o.op ≠ .defer c := by
  intro o ho c hc
  have := List.all_eq_true.1 h o (by simpa using ho)
  rw [hc] at this
  cases this

/-- The beginning, in a round. -/
theorem reg_mixR {id n rl : Nat} {a : Act} {w : World} {l : List Oper} (S : World → Prop) (perm : List Nat) (hm : P.follows .mixedOrders = true) (hs : Region.noSelect l.toArray = true) (hp : permB l.toArray perm (Array.replicate l.toArray.size false) = true) (hl : perm.length = l.toArray.size) (hd : noDeferB l = true) (hL : ¬ LetsOut (NoPanic Q)) (hS : S w.drew)
    (h : wpMix P l.toArray (NoPanic Q) S perm a w.drew) : (Code.region id l.toArray true).wpIn (Fence.wide.inRound rl) n P Q a w := by
  have h2 := wpAnyH_of_mix hs (fun _ _ _ _ _ h => h) perm _ a _ hp hS h
  rw [hl] at h2
  have h3 := wpAnyIn_of_wpAny (n := n) (l := rl) (noDefer_of hd) hL _ _ _ _ (wpAny_of_held _ _ _ _ h2)
  exact Code.wpIn_mono NoPanic.imp (wpIn_region_any hm h3)
end

end Go.Proofs.YtahfpadaoobkfaaGreatDoor
