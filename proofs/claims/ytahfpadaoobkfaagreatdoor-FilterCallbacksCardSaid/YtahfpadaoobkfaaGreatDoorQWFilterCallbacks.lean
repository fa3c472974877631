/-
  The walk of FilterCallbacks.
-/
import Derived.Test.YtahfpadaoobkfaaGreatDoorQFcL
import Derived.Test.YtahfpadaoobkfaaGreatDoorQAtMd
import Derived.Test.YtahfpadaoobkfaaGreatDoorQAT
import Derived.Test.YtahfpadaoobkfaaGreatDoorQS37
import Derived.Test.YtahfpadaoobkfaaGreatDoorQS31
import Derived.Test.YtahfpadaoobkfaaGreatDoorQS33
import Derived.Test.YtahfpadaoobkfaaGreatDoorQFT
import Derived.Test.YtahfpadaoobkfaaGreatDoorQS29
import Derived.Test.YtahfpadaoobkfaaGreatDoorRows
import Derived.Lib.LaidTab
import Derived.MakeChecks
namespace Go.Proofs.YtahfpadaoobkfaaGreatDoor
open Go.ChangeShapes Go.WideShapes Go.ChangeAt Go.RowKit Go.Deep Go.Lib

theorem rsC_len (r : Rs) : (rsC r).length = 3 := rfl
theorem infoRs : (Tryz.prog.info? 84).map (fun i => (i.zero, i.size, i.bytes)) = some (some (.agg #[.int .i64 0, .int .i64 0, .int .i64 0]), 3, 24) := by kernel_rfl
theorem rs_one (r : Rs) : ∀ u, u ∈ rsC r → u.oneCell' = true := fun u hu => by
  simp only [rsC, List.mem_cons, List.not_mem_nil, or_false] at hu
  rcases hu with rfl | rfl | rfl <;> rfl
/-- What the operations of the first call's region have made. -/
def TcP (N : Nat) (o r : Rs) (c : Ca) (i : Nat) (g : Nat → Value) (W : World) : Prop := match i with
  | 0 => ∃ a k, g 0 = .slice a 8 k ∧ W.ownsRow 0 9 1 (.slice a 8 k) 8 (allK.map Value.string)
  | 2 => ∃ b, g 2 = .slice (some ⟨b, 0, none⟩) 0 0 ∧ W.heap[b]? = some (.cells #[] 84 (0, 0)) ∧ N ≤ b
  | 4 => W.ownsRow 0 84 3 (g 4) 1 (rsC o) ∧ ∀ b, (g 4).ownBlock = some b → N ≤ b
  | 6 => ∃ b, g 6 = .slice (some ⟨b, 0, none⟩) 1 1 ∧ W.heap[b]? = some (.cells #[.int .i64 r.num, .int .i64 r.cen, .int .i64 r.at_] 84 (0, 0)) ∧ N ≤ b
  | 7 => ∃ a k, g 7 = .slice a 2 k ∧ W.ownsRow 0 84 3 (.slice a 2 k) 2 (rsC o ++ rsC r)
  | 8 => g 8 = .tuple #[caV c, .int .i64 0]
  | 9 => g 9 = .tuple #[caV c, .int .i64 0]
  | 10 => g 10 = caV c
  | 11 => g 11 = .int .i64 0
  | 12 => ∃ B, g 12 = .pointer (some ⟨B, 0, none⟩) ∧ W.heap[B]? = some (.cells #[.int .i64 0, .int .i64 0, .int .i64 0, .int .i64 0, .int .i64 0, .bool false] 54 (0, 0)) ∧ N ≤ B
  | 13 => ∃ B, g 12 = .pointer (some ⟨B, 0, none⟩) ∧ W.heap[B]? = some (.cells #[.int .i64 c.caller, .int .i64 c.called, .int .i64 c.at_, .int .i64 c.level, .int .i64 c.fwd, .bool c.back] 54 (0, 0)) ∧ N ≤ B
  | _ => True
theorem TcP.same {N : Nat} {o r : Rs} {c : Ca} {g : Nat → Value} {W W' : World} (i : Nat) (v : Value) (hf : Fr [] W W') : ∀ j, j ≠ i → (j, i) ∉ [(13, 12)] → TcP N o r c j g W → TcP N o r c j (upG g i v) W' := by
  intro j hj hb h
  unfold TcP at h ⊢
  split at h
  · obtain ⟨a, k, h1, h2⟩ := h; exact ⟨a, k, by rw [upG_ne g v hj]; exact h1, row_fr h2 hf (by simp)⟩
  · obtain ⟨b, h1, h2, h3⟩ := h; exact ⟨b, by rw [upG_ne g v hj]; exact h1, hf.keep h2 (by simp), h3⟩
  · rw [upG_ne g v hj]; exact ⟨row_fr h.1 hf (by simp), h.2⟩
  · obtain ⟨b, h1, h2, h3⟩ := h; exact ⟨b, by rw [upG_ne g v hj]; exact h1, hf.keep h2 (by simp), h3⟩
  · obtain ⟨a, k, h1, h2⟩ := h; exact ⟨a, k, by rw [upG_ne g v hj]; exact h1, row_fr h2 hf (by simp)⟩
  · rw [upG_ne g v hj]; exact h
  · rw [upG_ne g v hj]; exact h
  · rw [upG_ne g v hj]; exact h
  · rw [upG_ne g v hj]; exact h
  · obtain ⟨B, h1, h2, h3⟩ := h; exact ⟨B, by rw [upG_ne g v hj]; exact h1, hf.keep h2 (by simp), h3⟩
  · obtain ⟨B, h1, h2, h3⟩ := h; exact ⟨B, by rw [upG_ne g v (fun e => hb (by rw [← e]; simp))]; exact h1, hf.keep h2 (by simp), h3⟩
  · trivial
/-- Under the second append. -/
theorem TcP.app {N : Nat} {o r : Rs} {c : Ca} {g : Nat → Value} {W W' : World} {u : Value} (v : Value) (hu : W.ownsRow 0 84 3 u 1 (rsC o)) (hf : Fr u.ownBlock.toList W W') : ∀ j, j ≠ 7 → (j, 7) ∉ [(2, 4), (2, 7), (4, 7), (6, 7), (0, 13), (2, 13), (4, 13), (6, 13), (7, 13), (12, 13)] → (j, 7) ∉ [(13, 12), (13, 7), (8, 7), (9, 7), (10, 7), (11, 7)] → TcP N o r c j g W → TcP N o r c j (upG g 7 v) W' := by
  intro j hj hc hb h
  unfold TcP at h ⊢
  split at h
  · obtain ⟨a, k, h1, h2⟩ := h
    refine ⟨a, k, by rw [upG_ne g v hj]; exact h1, row_fr h2 hf (fun b hb hm => ?_)⟩
    exact row_apart h2 hu (by decide) hb (by simpa using hm)
  · exact absurd (by simp) hc
  · exact absurd (by simp) hc
  · exact absurd (by simp) hc
  · exact absurd rfl hj
  · exact absurd (by simp) hb
  · exact absurd (by simp) hb
  · exact absurd (by simp) hb
  · exact absurd (by simp) hb
  · obtain ⟨B, h1, h2, h3⟩ := h
    refine ⟨B, by rw [upG_ne g v hj]; exact h1, hf.keep h2 (fun hm => ?_), h3⟩
    exact row_box hu h2 (by decide) (by simpa using hm)
  · exact absurd (by simp) hb
  · trivial
theorem TcP.store {N : Nat} {o r : Rs} {c : Ca} {g : Nat → Value} {W W' : World} (v : Value) : ∀ j, j ≠ 13 → (j, 13) ∉ [(2, 4), (2, 7), (4, 7), (6, 7), (0, 13), (2, 13), (4, 13), (6, 13), (7, 13), (12, 13)] → TcP N o r c j g W → TcP N o r c j (upG g 13 v) W' := by
  intro j hj hc h
  unfold TcP at h ⊢
  split at h
  · exact absurd (by simp) hc
  · exact absurd (by simp) hc
  · exact absurd (by simp) hc
  · exact absurd (by simp) hc
  · exact absurd (by simp) hc
  · rw [upG_ne g v hj]; exact h
  · rw [upG_ne g v hj]; exact h
  · rw [upG_ne g v hj]; exact h
  · rw [upG_ne g v hj]; exact h
  · exact absurd (by simp) hc
  · exact absurd rfl hj
  · trivial
/-- The same of the second call's. -/
def TdP (N : Nat) (c : Ca) (i : Nat) (g : Nat → Value) (W : World) : Prop := match i with
  | 0 => ∃ a k, g 0 = .slice a 8 k ∧ W.ownsRow 0 9 1 (.slice a 8 k) 8 (allK.map Value.string)
  | 3 => g 3 = .tuple #[caV c, .int .i64 0]
  | 4 => g 4 = .tuple #[caV c, .int .i64 0]
  | 5 => g 5 = caV c
  | 6 => g 6 = .int .i64 0
  | 7 => ∃ B, g 7 = .pointer (some ⟨B, 0, none⟩) ∧ W.heap[B]? = some (.cells #[.int .i64 0, .int .i64 0, .int .i64 0, .int .i64 0, .int .i64 0, .bool false] 54 (0, 0)) ∧ N ≤ B
  | 8 => ∃ B, g 7 = .pointer (some ⟨B, 0, none⟩) ∧ W.heap[B]? = some (.cells #[.int .i64 c.caller, .int .i64 c.called, .int .i64 c.at_, .int .i64 c.level, .int .i64 c.fwd, .bool c.back] 54 (0, 0)) ∧ N ≤ B
  | _ => True
theorem TdP.same {N : Nat} {c : Ca} {g : Nat → Value} {W W' : World} (i : Nat) (v : Value) (hf : Fr [] W W') : ∀ j, j ≠ i → (j, i) ∉ [(8, 7)] → TdP N c j g W → TdP N c j (upG g i v) W' := by
  intro j hj hb h
  unfold TdP at h ⊢
  split at h
  · obtain ⟨a, k, h1, h2⟩ := h; exact ⟨a, k, by rw [upG_ne g v hj]; exact h1, row_fr h2 hf (by simp)⟩
  · rw [upG_ne g v hj]; exact h
  · rw [upG_ne g v hj]; exact h
  · rw [upG_ne g v hj]; exact h
  · rw [upG_ne g v hj]; exact h
  · obtain ⟨B, h1, h2, h3⟩ := h; exact ⟨B, by rw [upG_ne g v hj]; exact h1, hf.keep h2 (by simp), h3⟩
  · obtain ⟨B, h1, h2, h3⟩ := h; exact ⟨B, by rw [upG_ne g v (fun e => hb (by rw [← e]; simp))]; exact h1, hf.keep h2 (by simp), h3⟩
  · trivial
theorem TdP.store {N : Nat} {c : Ca} {g : Nat → Value} {W W' : World} (v : Value) : ∀ j, j ≠ 8 → (j, 8) ∉ [(0, 8), (7, 8)] → TdP N c j g W → TdP N c j (upG g 8 v) W' := by
  intro j hj hc h
  unfold TdP at h ⊢
  split at h
  · exact absurd (by simp) hc
  · rw [upG_ne g v hj]; exact h
  · rw [upG_ne g v hj]; exact h
  · rw [upG_ne g v hj]; exact h
  · rw [upG_ne g v hj]; exact h
  · exact absurd (by simp) hc
  · exact absurd rfl hj
  · trivial
theorem set6c {w : World} {b : Nat} {e : TypeId} {a0 a1 a2 a3 a4 a5 : Value} (h : w.heap[b]? = some (.cells #[a0, a1, a2, a3, a4, a5] e (0, 0))) (u0 u1 u2 u3 u4 u5 : Value) :
    ((((((w.setCell ⟨b, 0, none⟩ u0).setCell ⟨b, 1, none⟩ u1).setCell ⟨b, 2, none⟩ u2).setCell ⟨b, 3, none⟩ u3).setCell ⟨b, 4, none⟩ u4).setCell ⟨b, 5, none⟩ u5).heap[b]? = some (.cells #[u0, u1, u2, u3, u4, u5] e (0, 0)) ∧ Fr [b] w ((((((w.setCell ⟨b, 0, none⟩ u0).setCell ⟨b, 1, none⟩ u1).setCell ⟨b, 2, none⟩ u2).setCell ⟨b, 3, none⟩ u3).setCell ⟨b, 4, none⟩ u4).setCell ⟨b, 5, none⟩ u5) :=
  ⟨heap_setCell_same (i := 5) _ (heap_setCell_same (i := 4) _ (heap_setCell_same (i := 3) _ (heap_setCell_same (i := 2) _ (heap_setCell_same (i := 1) _ (heap_setCell_same (i := 0) _ h))))), (((((Fr.setCell _ _ (by simp)).trans (Fr.setCell _ _ (by simp))).trans (Fr.setCell _ _ (by simp))).trans (Fr.setCell _ _ (by simp))).trans (Fr.setCell _ _ (by simp))).trans (Fr.setCell _ _ (by simp))⟩

set_option maxRecDepth 1000000 in
set_option maxHeartbeats 8000000 in
theorem callbacks_c (vx vm : Value) (nx : Nat) (xs ms : List Int) (fb : Int) (v1 v2 v3 : Value) (n1 n2 n3 : Nat) (is1 is2 is3 : List Int) (q0 q1 q2 q3 lev : Int) (vc : Value) (F : List Int) (k0 k1 k2 k3 k4 k5 k6 k7 bf nu ce : Int) (w : World) (hR : RndAt w) (hx : NumAt w vx nx 12 xs) (hm : IntsAt w vm ms) (hmi : ∀ z, z ∈ ms → I64 z) (hfb : I64 fb) (h1 : NumAt w v1 n1 6 is1) (h2 : NumAt w v2 n2 3 is2) (h3 : NumAt w v3 n3 6 is3) (hq0 : I64 q0) (hq1 : I64 q1) (hq2 : I64 q2) (hq3 : I64 q3) (hlv : I64 lev) (hF : IntsAt w vc F) (hFi : ∀ z, z ∈ F → I64 z) (hks : ∀ k, k ∈ [k0, k1, k2, k3, k4, k5, k6, k7] → I64 k) (hbf : I64 bf) (hnu : I64 nu) (hce : I64 ce) :
    Calls Tryz.prog 4 #[vx, vm, .int .i64 fb, .agg #[v1, v2, v3], .agg #[.int .i64 q0, .int .i64 q1, .int .i64 q2, .int .i64 q3, .int .i64 lev, vc, .int .i64 k0, .int .i64 k1, .int .i64 k2, .int .i64 k3, .int .i64 k4, .int .i64 k5, .int .i64 k6, .int .i64 k7], .int .i64 bf, .int .i64 nu, .int .i64 ce] w fun e w' => e = .returned (.bool true) ∧ Below w.heap.size w w' := by
  obtain ⟨ax, px, rfl⟩ := hx.sl.val
  obtain ⟨am, pm, rfl⟩ := hm.val
  obtain ⟨fa, fc, rfl⟩ := hF.val
  obtain ⟨a1, p1, rfl⟩ := h1.sl.val
  obtain ⟨a2, p2, rfl⟩ := h2.sl.val
  obtain ⟨a3, p3, rfl⟩ := h3.sl.val
  have HA := Lib.hid (allocs_at [.cells #[.slice a1 n1 p1, .slice a2 n2 p2, .slice a3 n3 p3] 30, .cells #[.int .i64 q0, .int .i64 q1, .int .i64 q2, .int .i64 q3, .int .i64 lev, .slice fa F.length fc, .int .i64 k0, .int .i64 k1, .int .i64 k2, .int .i64 k3, .int .i64 k4, .int .i64 k5, .int .i64 k6, .int .i64 k7] 26] w)
  have FA : Hid (Fr [] w _) := Lib.hid (allocs_fr [.cells #[.slice a1 n1 p1, .slice a2 n2 p2, .slice a3 n3 p3] 30, .cells #[.int .i64 q0, .int .i64 q1, .int .i64 q2, .int .i64 q3, .int .i64 lev, .slice fa F.length fc, .int .i64 k0, .int .i64 k1, .int .i64 k2, .int .i64 k3, .int .i64 k4, .int .i64 k5, .int .i64 k6, .int .i64 k7] 26] w)
  have HX := Lib.hid hx; have HM := Lib.hid hm; have HMI := Lib.hid hmi
  have H1 := Lib.hid h1; have H2 := Lib.hid h2; have H3 := Lib.hid h3
  have HR := Lib.hid hR
  have bp2 := pickI_bound q2 1000 (by omega)
  have CQ2 := Lib.hid fun W => lawpick26_c q2 1000 W hq2 (by omega) (by omega)
  have HD2 : Hid (pickI (pickI q2 1000) 1000 = pickI q2 1000) := Lib.hid (by
    unfold pickI at bp2 ⊢
    rw [if_neg (by omega : ¬ (if q2 < 0 then -(q2 + 1) else q2) % 1000 < 0)]
    exact Int.emod_emod_of_dvd _ (Int.dvd_refl _))
  have CM := Lib.hid fun W (hf : Fr [] w W) => made25_c q0 q1 (pickI q2 1000) q3 lev (.slice fa F.length fc) F k0 k1 k2 k3 k4 k5 k6 k7 W hq0 hq1 (by unfold I64; omega) hq3 hlv (hF.same hf) hFi hks
  have HDB := Lib.hid (dialM_b q0 q1 (pickI q2 1000) q3)
  have hd2 : (dialM q0 q1 (pickI q2 1000) q3).at_ ≤ 999 ∧ 0 ≤ (dialM q0 q1 (pickI q2 1000) q3).at_ := by
    show pickI (pickI q2 1000) 1000 ≤ 999 ∧ 0 ≤ pickI (pickI q2 1000) 1000
    rw [HD2.out]; omega
  have CBF := Lib.hid fun W => lawpick26_c bf 259200 W hbf (by omega) (by omega)
  have CB4 := Lib.hid fun W => lawpick26_c bf 4 W hbf (by omega) (by omega)
  have CB3 := Lib.hid fun W => lawpick26_c (bf.tdiv 4) 3 W (tdiv4_i64 bf hbf) (by omega) (by omega)
  have CNU := Lib.hid fun W => lawpick26_c nu 100 W hnu (by omega) (by omega)
  have CCE := Lib.hid fun W => lawpick26_c ce 100 W hce (by omega) (by omega)
  have HT4 : Hid (wrap64 (bf.tdiv 4) = bf.tdiv 4) := Lib.hid (w64_inT _ (by have := tdiv4_i64 bf hbf; unfold I64 at this; omega))
  have bbf := pickI_bound bf 259200 (by omega)
  have bb3 := pickI_bound (bf.tdiv 4) 3 (by omega)
  have bnu := pickI_bound nu 100 (by omega)
  have bce := pickI_bound ce 100 (by omega)
  generalize dialM q0 q1 (pickI q2 1000) q3 = D at *
  obtain ⟨d0, d1, d2, d3⟩ := D
  simp only at hd2
  generalize pickI q2 1000 = p2' at *
  generalize pickI bf 259200 = pbf at *
  generalize pickI bf 4 = pb4 at *
  generalize pickI (bf.tdiv 4) 3 = pb3 at *
  generalize pickI nu 100 = pnu at *
  generalize pickI ce 100 = pce at *
  have CA := Lib.hid fun W => all25_c W
  clear HD2 hx hm hmi h1 h2 h3 hR hq0 hq1 hq2 hq3 hlv hF hFi hks hbf hnu hce
  go_enter Tryz.func4, Tryz.ntmps4
  go_wp2_with fail
  refine (sane26_c _).mono ?_
  rintro e w1 ⟨rfl, f1⟩
  have F1 := Lib.hid (FA.out.trans f1)
  have HB : Hid (∀ W, Fr [] w1 W → _) := Lib.hid fun W hf => And.intro (show W.heap[w.heap.size]? = some (.cells #[.slice a1 n1 p1, .slice a2 n2 p2, .slice a3 n3 p3] 30) from hf.keep (f1.keep (HA.out 0 (by simp)) (by simp)) (by simp))
    (show W.heap[w.heap.size + 1]? = some (.cells #[.int .i64 q0, .int .i64 q1, .int .i64 q2, .int .i64 q3, .int .i64 lev, .slice fa F.length fc, .int .i64 k0, .int .i64 k1, .int .i64 k2, .int .i64 k3, .int .i64 k4, .int .i64 k5, .int .i64 k6, .int .i64 k7] 26) from hf.keep (f1.keep (HA.out 1 (by simp)) (by simp)) (by simp))
  have hs1 : w.heap.size + 1 < w1.heap.size := blk_lt (HB.out _ (Fr.refl _ _)).2
  have CM26 := Lib.hid (made26_c _ _ nx xs ms fb w1 (HX.out.same F1.out) (HM.out.same F1.out) HMI.out hfb)
  clear f1 HA FA HX HM HMI
  go_wp2_with fail
  refine CM26.out.mono ?_
  rintro e w2 ⟨f2, v, ys, dfl, rfl, ho, hok, hlen, hdf⟩
  obtain ⟨av, pv, rfl⟩ := (sl_of_row ho.row).val
  have fb2 := Fr.alloc [] w2 (.cells #[.slice av ys.length pv, .int .i64 dfl] 69)
  have LF := Lib.hid (And.intro (ho.same fb2) (And.intro hok (And.intro hlen hdf)))
  have LB := Lib.hid (heap_alloc_new w2 (.cells #[.slice av ys.length pv, .int .i64 dfl] 69))
  have F2 := Lib.hid (f2.trans fb2)
  have hs12 := f2.size
  have B2 := (HB.out _ F2.out).1
  have c0 := cell_of_blk B2 0; have c1 := cell_of_blk B2 1; have c2 := cell_of_blk B2 2
  have CR := Lib.hid (made_c _ _ _ n1 n2 n3 is1 is2 is3 _ (H1.out.same (F1.out.trans F2.out)) (H2.out.same (F1.out.trans F2.out)) (H3.out.same (F1.out.trans F2.out)))
  clear f2 ho hok hlen hdf fb2 CM26 H1 H2 H3 B2
  go_wp2_with fail
  refine CR.out.mono ?_
  rintro e w3 ⟨f3, vc, vr, vf, zs, b, rfl, hmd, hro⟩
  obtain ⟨ac, pc, rfl⟩ := (sl_of_row hro.cls).val
  obtain ⟨ar, pr, rfl⟩ := (sl_of_row hro.rps).val
  obtain ⟨af, pf, rfl⟩ := (sl_of_row hro.fas).val
  have f3b := Fr.alloc [] w3 (.cells #[.slice ac zs.length pc, .slice ar b.rps.length pr, .slice af b.fas.length pf] 36)
  have F3 := Lib.hid (f3.trans f3b)
  have hs23 := f3.size
  simp only [World.size_alloc] at hs23
  have RO := Lib.hid (And.intro (hro.same f3b) hmd)
  have RB := Lib.hid (heap_alloc_new w3 (.cells #[.slice ac zs.length pc, .slice ar b.rps.length pr, .slice af b.fas.length pf] 36))
  have F13 := Lib.hid (F2.out.trans F3.out)
  have B3 := HB.out _ F13.out
  have c0 := cell_of_blk B3.2 0; have c1 := cell_of_blk B3.2 1; have c2 := cell_of_blk B3.2 2; have c3 := cell_of_blk B3.2 3; have c4 := cell_of_blk B3.2 4; have c5 := cell_of_blk B3.2 5; have c6 := cell_of_blk B3.2 6; have c7 := cell_of_blk B3.2 7; have c8 := cell_of_blk B3.2 8; have c9 := cell_of_blk B3.2 9; have c10 := cell_of_blk B3.2 10; have c11 := cell_of_blk B3.2 11; have c12 := cell_of_blk B3.2 12; have c13 := cell_of_blk B3.2 13
  have z2 := free_of_blk B3.2 2
  clear f3 hmd hro f3b CR
  go_wp2_with fail
  refine (CQ2.out _).mono ?_
  rintro e w3b ⟨rfl, rfl⟩
  go_wp2_with fail
  have fw := Fr.setCell (fp := [w.heap.size + 1]) (p := ⟨w.heap.size + 1, 2, none⟩) (w3.alloc (.cells #[.slice ac zs.length pc, .slice ar b.rps.length pr, .slice af b.fas.length pf] 36)) (.int .i64 p2') (by simp)
  have HZ4 := Lib.hid (show _ = some (Obj.cells #[.int .i64 q0, .int .i64 q1, .int .i64 p2', .int .i64 q3, .int .i64 lev, .slice fa F.length fc, .int .i64 k0, .int .i64 k1, .int .i64 k2, .int .i64 k3, .int .i64 k4, .int .i64 k5, .int .i64 k6, .int .i64 k7] 26) from heap_setCell_same (i := 2) (.int .i64 p2') B3.2)
  have hle3 := F2.out.size
  have hl3 := F3.out.size
  have hlb := blk_lt LB.out
  have RO4 : Hid (RbOwn w1.heap.size _ _ _ _ _ _ ∧ MadeOk b) := Lib.hid (And.intro ((RO.out.1.fr fw (fun g hg => by simp at hg; omega)).older (by omega)) RO.out.2)
  have RB4 := Lib.hid (fw.keep RB.out (by simp at hlb hl3 ⊢; omega))
  have LB4 := Lib.hid (fw.keep (F3.out.keep LB.out (by simp)) (by simp at hlb hl3 ⊢; omega))
  have LF4 := Lib.hid (And.intro ((LF.out.1.same F3.out).fr fw (fun g hg hm => by have := LF.out.1.newR g hg; simp at hm; omega) (fun y hy g hg hm => by have := LF.out.1.newC y hy g hg; simp at hm; omega)) LF.out.2)
  have F4 : Hid (Fr [] w _) := Lib.hid ((F1.out.trans F13.out).step fw (fun g hg => .inr (by simp at hg; omega)))
  have hl4 := fw.size
  generalize hW4 : (w3.alloc (.cells #[.slice ac zs.length pc, .slice ar b.rps.length pr, .slice af b.fas.length pf] 36)).setCell ⟨w.heap.size + 1, 2, none⟩ (.int .i64 p2') = W4 at *
  clear hW4 fw hle3 hl3 hlb RO RB LB LF F13 F2 F3 B3 z2 HB F1 CQ2 hl4
  refine (CM.out _ F4.out).mono ?_
  rintro e w5 ⟨va, l, rfl, hfm, hY⟩
  obtain ⟨aa, pa, rfl⟩ := hY.at_.val
  have BA := heap_alloc_new w5 (.cells #[.int .i64 d0, .int .i64 d1, .int .i64 d2, .int .i64 d3, .slice aa l.length pa] 44)
  have e0 := cell_of_blk BA 0; have e1 := cell_of_blk BA 1; have e2 := cell_of_blk BA 2; have e3 := cell_of_blk BA 3
  have A5 := alloc2' w5 (.cells #[.int .i64 d0, .int .i64 d1, .int .i64 d2, .int .i64 d3, .slice aa l.length pa] 44) (.cells #[.int .i64 d0, .int .i64 d1, .int .i64 (d2 + 172800), .int .i64 d3] 41)
  have f5 := (Fr.alloc [] w5 (.cells #[.int .i64 d0, .int .i64 d1, .int .i64 d2, .int .i64 d3, .slice aa l.length pa] 44)).trans (Fr.alloc [] _ (.cells #[.int .i64 d0, .int .i64 d1, .int .i64 (d2 + 172800), .int .i64 d3] 41))
  have hz5 : ((w5.alloc (.cells #[.int .i64 d0, .int .i64 d1, .int .i64 d2, .int .i64 d3, .slice aa l.length pa] 44)).alloc (.cells #[.int .i64 d0, .int .i64 d1, .int .i64 (d2 + 172800), .int .i64 d3] 41)).heap.size = w5.heap.size + 1 + 1 := by simp
  have F45 := Lib.hid (hY.fr.trans f5)
  have hs45 := hY.fr.size
  have HA5 := Lib.hid A5
  clear c0 c1 c2 c3 c4 c5 c6 c7 c8 c9 c10 c11 c12 c13 hfm hY CM HZ4 BA A5 f5
  go_wp2_with fail
  generalize (w5.alloc (.cells #[.int .i64 d0, .int .i64 d1, .int .i64 d2, .int .i64 d3, .slice aa l.length pa] 44)).alloc (.cells #[.int .i64 d0, .int .i64 d1, .int .i64 (d2 + 172800), .int .i64 d3] 41) = W5 at *
  generalize hba : w5.heap.size = bA at *
  clear hba e0 e1 e2 e3
  refine (CA.out _).mono ?_
  rintro e w6 ⟨kv, rfl, hK⟩
  obtain ⟨ka, kc, rfl⟩ := hK.val
  have hks := sl_of_row hK.row
  rw [allK_len] at hks ⊢
  have hc8 : 0 < allK.length := by rw [allK_len]; omega
  have hky := allK_size (List.getElem_mem hc8)
  obtain ⟨kb, ko, rfl, hkc⟩ := hks.at_ (by omega)
  have kc0 := hkc 0 (.string allK[0]) (by simp [hc8])
  have f6 := hK.fr
  have HA6 := Lib.hid (And.intro (f6.keep HA5.out.1 (by simp)) (f6.keep HA5.out.2 (by simp)))
  have F46 := Lib.hid (F45.out.trans f6)
  have hs6 := f6.size
  simp only [Nat.add_zero] at kc0
  generalize allK[0] = ky at *
  have b0 := cell_of_blk HA6.out.2 0; have b1 := cell_of_blk HA6.out.2 1; have b2 := cell_of_blk HA6.out.2 2; have b3 := cell_of_blk HA6.out.2 3
  have CB := Lib.hid (begin_c ky ⟨d0, d1, d2 + 172800, d3⟩ 0 0 w6 (HR.out.same (F4.out.trans F46.out) (by simp)) hky (by
    have h := HDB.out
    simp only [dlB, Bool.and_eq_true, isInB_iff] at h ⊢
    omega) (by omega) (by omega))
  simp only at CB
  clear hK hks hkc f6 F45 HA5 hc8
  go_wp2_with fail
  refine CB.out.mono ?_
  rintro e w7 ⟨v', sg, rfl, hsg, hY⟩
  obtain ⟨aa', pa', rfl⟩ := hY.at_.val
  have f7 := hY.fr
  have hA7 := f7.keep HA6.out.1 (by simp); have hD7 := f7.keep HA6.out.2 (by simp)
  have z0 := cell_of_blk hA7 0; have z1 := cell_of_blk hA7 1; have z2 := cell_of_blk hA7 2; have z3 := cell_of_blk hA7 3; have z4 := cell_of_blk hA7 4
  have y0 := free_of_blk hA7 0; have y1 := free_of_blk hA7 1; have y2 := free_of_blk hA7 2; have y3 := free_of_blk hA7 3; have y4 := free_of_blk hA7 4
  obtain ⟨KF, FF⟩ := set5 hA7 (.int .i64 d0) (.int .i64 d1) (.int .i64 (d2 + 172800)) (.int .i64 d3) (.slice aa' 1 pa')
  have hs7 := f7.size
  have RW7 := Lib.hid (row_fr hY.row FF (fun b hb hm => by have := hY.young b hb; simp at hm; omega))
  have D7 := Lib.hid (FF.keep hD7 (by simp))
  have A7 := Lib.hid KF
  have F47 := Lib.hid ((F46.out.trans f7).step FF (fun g hg => .inr (by simp at hg; omega)))
  have HSG := Lib.hid hsg
  have hs7' := FF.size
  have HSL7 := Lib.hid hY.young
  clear b0 b1 b2 b3 f7 hA7 hD7 KF FF hY hsg CB kc0 HA6 F46
  go_wp2_with fail
  generalize ((((w7.setCell ⟨bA, 0, none⟩ (.int .i64 d0)).setCell ⟨bA, 1, none⟩ (.int .i64 d1)).setCell ⟨bA, 2, none⟩ (.int .i64 (d2 + 172800))).setCell ⟨bA, 3, none⟩ (.int .i64 d3)).setCell ⟨bA, 4, none⟩ (.slice aa' 1 pa') = W7 at *
  clear z0 z1 z2 z3 z4 y0 y1 y2 y3 y4
  refine (CBF.out _).mono ?_
  rintro e W8 ⟨rfl, rfl⟩
  go_wp2_with fail
  refine (CB4.out _).mono ?_
  rintro e W8 ⟨rfl, rfl⟩
  go_upto_if 74 with fail
  go_cut [24] from 73 (fun s W => ∃ ag : Int, s = .int .i64 ag ∧ -43200 ≤ ag ∧ ag ≤ 216000 ∧ Hid (W = W7))
  case first =>
    by_cases h3 : pb4 = 3
    · have hb : decide (pb4 = 3) = true := decide_eq_true h3
      go_wp2_with fail
      rw [HT4.out]
      refine (CB3.out _).mono ?_
      rintro e W8 ⟨rfl, rfl⟩
      go_wp2_with fail
      go_meet
      case rel => exact ⟨86399 + pb3 - 1, rfl, by omega, by omega, Lib.hid rfl⟩
    · have hb : decide (pb4 = 3) = false := decide_eq_false h3
      go_wp2_with fail
      go_meet
      case rel => exact ⟨pbf - 43200, rfl, by omega, by omega, Lib.hid rfl⟩
  case rest =>
    obtain ⟨ag, rfl, hag1, hag2, hWW⟩ := hcut
    have hWW := hWW.out
    subst hWW
    rename_i K0 hK0
    refine hK0 _ _ ?_
    clear hK0 K0
    have b0 := cell_of_blk D7.out 0; have b1 := cell_of_blk D7.out 1; have b2 := cell_of_blk D7.out 2
    go_upto_region 18 with fail
    have fr17 := Fr.alloc [] wc (.cells #[.int .i64 d1, .int .i64 d0, .int .i64 (max (d2 + 172800 - ag) 0)] 84)
    have BR := Lib.hid (heap_alloc_new wc (.cells #[.int .i64 d1, .int .i64 d0, .int .i64 (max (d2 + 172800 - ag) 0)] 84))
    have hra : 0 ≤ max (d2 + 172800 - ag) 0 ∧ max (d2 + 172800 - ag) 0 ≤ d2 + 216000 := by omega
    generalize max (d2 + 172800 - ag) 0 = ra at *
    have b2 := fr17.cel b2 (by simp)
    have A8 := Lib.hid (fr17.keep A7.out (by simp)); have D8 := Lib.hid (fr17.keep D7.out (by simp))
    have F48 := Lib.hid (F47.out.trans fr17)
    have RW8 := Lib.hid (row_fr RW7.out fr17 (by simp))
    have hs8 := fr17.size
    generalize wc.alloc (.cells #[.int .i64 d1, .int .i64 d0, .int .i64 ra] 84) = W8 at *
    generalize hbQ : wc.heap.size = bQ at *
    clear b0 b1 fr17 A7 D7 F47 RW7
    refine reg_mix (Fr [] W8) [0, 2, 4, 5, 1, 3, 6, 7, 8] (by kernel_rfl) (by kernel_rfl) (by kernel_rfl) rfl (Fr.drew _ _) ?_
    have FC : Fr [] W8 W8.drew := Fr.drew _ _
    generalize W8.drew = WC at FC ⊢
    iterate 4 (refine mix_take1 (v := ?_) rfl rfl rfl rfl (fun w hS => ?_) ?_; rotate_left; (focus (have s2 := hS.cel b2 (by simp); clear hS; go_simp; rfl)); simp only [List.setIfInBounds_toArray, List.set_cons_succ, List.set_cons_zero])
    refine mix_do rfl rfl rfl (fun K hK => ?_)
    go_simp
    refine (CNU.out _).mono ?_
    rintro e W9 ⟨rfl, rfl⟩
    refine hK _ _ FC ?_
    clear hK K
    try simp only [Act.put, List.setIfInBounds_toArray, List.set_cons_succ, List.set_cons_zero]
    refine mix_do rfl rfl rfl (fun K hK => ?_)
    go_simp
    refine (CCE.out _).mono ?_
    rintro e W9 ⟨rfl, rfl⟩
    refine hK _ _ FC ?_
    clear hK K
    try simp only [Act.put, List.setIfInBounds_toArray, List.set_cons_succ, List.set_cons_zero]
    (refine mix_take1 (v := ?_) rfl rfl rfl rfl (fun w hS => ?_) ?_; rotate_left; (focus (have s2 := hS.cel b2 (by simp); clear hS; go_simp; rfl)); simp only [List.setIfInBounds_toArray, List.set_cons_succ, List.set_cons_zero])
    refine mix_do rfl rfl rfl (fun K hK => ?_)
    go_simp
    have HO9 := Lib.hid (heap_alloc_new WC (.cells #[.int .i64 pnu, .int .i64 pce, .int .i64 (d2 + 172800)] 84))
    have FC := FC.trans (Fr.alloc [] WC (.cells #[.int .i64 pnu, .int .i64 pce, .int .i64 (d2 + 172800)] 84))
    refine hK _ _ FC ?_
    clear hK K
    generalize hbO : WC.heap.size = bO at *
    generalize WC.alloc (.cells #[.int .i64 pnu, .int .i64 pce, .int .i64 (d2 + 172800)] 84) = WD at *
    try simp only [Act.put, List.setIfInBounds_toArray, List.set_cons_succ, List.set_cons_zero]
    (refine mix_take1 (v := ?_) rfl rfl rfl rfl (fun w hS => ?_) ?_; rotate_left; (focus (clear hS; go_simp; rfl)); simp only [List.setIfInBounds_toArray, List.set_cons_succ, List.set_cons_zero])
    refine mix_end ?_
    have A9 := Lib.hid (FC.keep A8.out (by simp)); have D9 := Lib.hid (FC.keep D8.out (by simp)); have BR9 := Lib.hid (FC.keep BR.out (by simp))
    have RW9 := Lib.hid (row_fr RW8.out FC (by simp))
    have F49 := Lib.hid (F48.out.trans FC)
    clear A8 D8 BR RW8 F48 FC b2 hbO hbQ
    have HSO : Hid (SrcAt WD (.slice (some ⟨bO, 0, none⟩) 1 1) 1 (rsC ⟨pnu, pce, d2 + 172800⟩)) := Lib.hid ⟨.inr ⟨_, 1, rfl, fun j u hu => by rw [add_at, cell_of_blk HO9.out]; simpa [rsC] using hu⟩⟩
    have hdl : dlB ⟨d0, d1, d2 + 172800, d3⟩ = true := by
      have h := HDB.out
      simp only [dlB, Bool.and_eq_true, isInB_iff] at h ⊢
      omega
    have hlv := cb_lev ⟨d0, d1, d2 + 172800, d3⟩ sg hdl HSG.out
    have hdb : 0 ≤ d0 ∧ d0 ≤ 99999999 ∧ 0 ≤ d1 ∧ d1 ≤ 99999999 := by
      have h := HDB.out
      simp only [dlB, Bool.and_eq_true, isInB_iff] at h
      omega
    have hok1 : rsB ⟨pnu, pce, d2 + 172800⟩ = true := by
      simp only [rsB, Bool.and_eq_true, isInB_iff]
      omega
    have hok2 : rsB ⟨d1, d0, ra⟩ = true := by
      simp only [rsB, Bool.and_eq_true, isInB_iff]
      omega
    have CT2 := Lib.hid fun V (hV : Fr [] WD V) vK vl (hk : Sl V vK 8 (allK.map Value.string)) (hl : Sl V vl 2 (rsC ⟨pnu, pce, d2 + 172800⟩ ++ rsC ⟨d1, d0, ra⟩)) => cbTake vK ⟨d0, d1, d2 + 172800, d3⟩ (.slice aa' 1 pa') sg vl [⟨pnu, pce, d2 + 172800⟩, ⟨d1, d0, ra⟩] V (HR.out.same (F4.out.trans (F49.out.trans hV)) (by simp)) hk hdl (row_fr RW9.out hV (by simp)) HSG.out (by simpa using hl) (by simp) (by simp [hok1, hok2])
    have CT1 := Lib.hid fun V (hV : Fr [] WD V) vK vl (hk : Sl V vK 8 (allK.map Value.string)) (hl : Sl V vl 1 (rsC ⟨pnu, pce, d2 + 172800⟩)) => cbTake vK ⟨d0, d1, d2 + 172800, d3⟩ (.slice aa' 1 pa') sg vl [⟨pnu, pce, d2 + 172800⟩] V (HR.out.same (F4.out.trans (F49.out.trans hV)) (by simp)) hk hdl (row_fr RW9.out hV (by simp)) HSG.out (by simpa using hl) (by simp) (by simp [hok1])
    have HOW := Lib.hid (cb_own ⟨d0, d1, d2 + 172800, d3⟩ pnu pce)
    have HIN := Lib.hid (cb_in ⟨d0, d1, d2 + 172800, d3⟩ ra)
    simp only [List.any_cons, List.any_nil, Bool.or_false] at CT2 CT1
    simp only at HOW HIN
    generalize backB ⟨d0, d1, d2 + 172800, d3⟩ ⟨pnu, pce, d2 + 172800⟩ = bo at *
    generalize backB ⟨d0, d1, d2 + 172800, d3⟩ ⟨d1, d0, ra⟩ = bi at *
    generalize (chkM allK ⟨⟨d0, d1, d2 + 172800, d3⟩, [⟨0, 0, sg⟩]⟩).1 = lc at *
    have e0 := cell_of_blk A9.out 0; have e1 := cell_of_blk A9.out 1; have e2 := cell_of_blk A9.out 2; have e3 := cell_of_blk A9.out 3; have e4 := cell_of_blk A9.out 4
    have x0 := cell_of_blk BR9.out 0; have x1 := cell_of_blk BR9.out 1; have x2 := cell_of_blk BR9.out 2
    obtain ⟨cc, hcc⟩ : ∃ cc : Ca, cc = ⟨d0, d1, d2 + 172800, lc, 0, bo || bi⟩ := ⟨_, rfl⟩
    have HCC := Lib.hid hcc
    rw [← hcc] at CT2
    clear hcc hdl hok1 hok2
    go_wp2_with fail
    refine reg_invG (C := [(2, 4), (2, 7), (4, 7), (6, 7), (0, 13), (2, 13), (4, 13), (6, 13), (7, 13), (12, 13)]) (B := [(13, 12), (13, 7), (8, 7), (9, 7), (10, 7), (11, 7)]) (Fr [] WD) 14 [1, 3, 5] [(0, []), (2, []), (4, [2]), (6, []), (7, [4, 6]), (8, [0, 7]), (9, [8]), (10, [9]), (11, [9]), (12, []), (13, [10, 12])] (by kernel_rfl) (by kernel_rfl) (by kernel_rfl) (by kernel_rfl) (by kernel_rfl) ?_
    have FC : Fr [] WD WD.drew := Fr.drew _ _
    have HNW : Hid (∀ V : World, Fr [] WD V → WD.heap.size ≤ V.heap.size) := Lib.hid fun V h => h.size
    iterate 3 (refine tk_take (v := ?_) rfl rfl rfl FC (fun w hS => ?_) ?_; rotate_left; (focus (have u0 := hS.cel e0 (by simp); have u1 := hS.cel e1 (by simp); have u2 := hS.cel e2 (by simp); have u3 := hS.cel e3 (by simp); have u4 := hS.cel e4 (by simp); have s0 := hS.cel x0 (by simp); have s1 := hS.cel x1 (by simp); have s2 := hS.cel x2 (by simp); clear hS; go_simp; rfl)); simp only [List.setIfInBounds_toArray, List.set_cons_succ, List.set_cons_zero])
    refine invG_start [(0, 99), (2, 101), (4, 103), (6, 105), (7, 106), (8, 107), (9, 98), (10, 108), (11, 109), (12, 27)] (TcP WD.heap.size ⟨pnu, pce, d2 + 172800⟩ ⟨d1, d0, ra⟩ cc) (by decide) FC ⟨fun g V hS hD => ?_, fun g V hS hD => ?_, fun g V hS hD => ?_, fun g V hS hD => ?_, fun g V hS hD => ?_, fun g V hS hD => ?_, fun g V hS hD => ?_, fun g V hS hD => ?_, fun g V hS hD => ?_, fun g V hS hD => ?_, fun g V hS hD => ?_, trivial⟩ (fun g WE hS hD => ?_)
    · refine invG_op rfl rfl (fun K hK => ?_)
      simp only [putG, putT, List.setIfInBounds_toArray, List.set_cons_succ, List.set_cons_zero] at hK ⊢
      go_simp
      refine (CA.out _).mono ?_
      rintro e V2 ⟨v2, rfl, hk2⟩
      obtain ⟨aK, cK, hv2⟩ := (sl_of_row hk2.row).val
      rw [allK_len] at hv2
      subst hv2
      have hr2 := hk2.row
      rw [allK_len] at hr2
      have h' := TcP.same (N := WD.heap.size) (o := ⟨pnu, pce, d2 + 172800⟩) (r := ⟨d1, d0, ra⟩) (c := cc) (g := g) 0 (.slice aK 8 cK) hk2.fr
      exact hK _ _ (hS.trans hk2.fr) ⟨_, _, rfl, hr2⟩ (fun j hj _ hb h => h' j hj (by simp) h)
    · refine invG_op rfl rfl (fun K hK => ?_)
      simp only [putG, putT, List.setIfInBounds_toArray, List.set_cons_succ, List.set_cons_zero] at hK ⊢
      have fa := Fr.alloc [] V (.cells #[] 84)
      have h' := TcP.same (N := WD.heap.size) (o := ⟨pnu, pce, d2 + 172800⟩) (r := ⟨d1, d0, ra⟩) (c := cc) (g := g) 2 (.slice (some ⟨V.heap.size, 0, none⟩) 0 0) fa
      go_simp
      exact hK _ _ (hS.trans fa) ⟨_, rfl, heap_alloc_new _ _, HNW.out _ hS⟩ (fun j hj _ hb h => h' j hj (by simp) h)
    · obtain ⟨b2', x2, hb2, nb2⟩ := hD 2 (by simp)
      refine invG_op rfl rfl (fun K hK => ?_)
      simp only [putG, putT, List.setIfInBounds_toArray, List.set_cons_succ, List.set_cons_zero] at hK ⊢
      refine wp_append_freshW (.tmp 101) (.tmp 102) 85 84 _ 3 24 rfl Tryz.underlying85 infoRs rfl (by decide) b2' x2 hb2 _ 1 (rsC ⟨pnu, pce, d2 + 172800⟩) rfl (HSO.out.same hS) rfl (rs_one _) (by omega) (by omega) ?_
      intro v' w' r1 f1 b1
      have hn := HNW.out _ hS
      have h' := TcP.same (N := WD.heap.size) (o := ⟨pnu, pce, d2 + 172800⟩) (r := ⟨d1, d0, ra⟩) (c := cc) (g := g) 4 v' f1
      exact hK v' w' (hS.trans f1) ⟨r1, fun b hb => by
        rcases b1 b hb with rfl | hb
        · exact nb2
        · omega⟩ (fun j hj _ hb h => h' j hj (by simp) h)
    · refine invG_op rfl rfl (fun K hK => ?_)
      simp only [putG, putT, List.setIfInBounds_toArray, List.set_cons_succ, List.set_cons_zero] at hK ⊢
      have fa := Fr.alloc [] V (.cells #[.int .i64 d1, .int .i64 d0, .int .i64 ra] 84)
      have h' := TcP.same (N := WD.heap.size) (o := ⟨pnu, pce, d2 + 172800⟩) (r := ⟨d1, d0, ra⟩) (c := cc) (g := g) 6 (.slice (some ⟨V.heap.size, 0, none⟩) 1 1) fa
      go_simp
      exact hK _ _ (hS.trans fa) ⟨_, rfl, heap_alloc_new _ _, HNW.out _ hS⟩ (fun j hj _ hb h => h' j hj (by simp) h)
    · obtain ⟨hr4, hn4⟩ := hD 4 (by simp)
      obtain ⟨b6, x6, hb6, nb6⟩ := hD 6 (by simp)
      refine invG_op rfl rfl (fun K hK => ?_)
      simp only [putG, putT, List.setIfInBounds_toArray, List.set_cons_succ, List.set_cons_zero] at hK ⊢
      refine wp_append_src (.tmp 103) (.tmp 105) 85 84 _ 3 24 rfl Tryz.underlying85 infoRs rfl (by decide) (g 4) 1 _ rfl hr4 _ 1 (rsC ⟨d1, d0, ra⟩) x6 ⟨.inr ⟨_, 1, rfl, fun j u hu => by rw [add_at, cell_of_blk hb6]; simpa [rsC] using hu⟩⟩ rfl (rs_one _) (by omega) (by omega) ?_
      intro ga cap w' r1 f1 o1
      exact hK _ w' (hS.step f1 (fun i hi => .inr (hn4 i (by simpa using hi)))) ⟨_, _, rfl, r1⟩ (fun j hj hc hb h => TcP.app _ hr4 f1 j hj hc hb h)
    · obtain ⟨aK, cK, x0, hr0⟩ := hD 0 (by simp)
      obtain ⟨a7, c7, x7, hr7⟩ := hD 7 (by simp)
      refine invG_op rfl rfl (fun K hK => ?_)
      simp only [putG, putT, List.setIfInBounds_toArray, List.set_cons_succ, List.set_cons_zero] at hK ⊢
      simp only [upG, Nat.reduceEqDiff, if_false, if_true] at hK
      rw [x0, x7] at hK ⊢
      go_simp
      refine (CT2.out V hS _ _ (sl_of_row hr0) (sl_of_row hr7)).mono ?_
      rintro e V2 ⟨rfl, f2⟩
      have h' := TcP.same (N := WD.heap.size) (o := ⟨pnu, pce, d2 + 172800⟩) (r := ⟨d1, d0, ra⟩) (c := cc) (g := g) 8 (.tuple #[caV cc, .int .i64 0]) f2
      exact hK _ _ (hS.trans f2) rfl (fun j hj _ hb h => h' j hj (by simp) h)
    · have xt : g 8 = .tuple #[caV cc, .int .i64 0] := hD 8 (by simp)
      have h' := TcP.same (N := WD.heap.size) (o := ⟨pnu, pce, d2 + 172800⟩) (r := ⟨d1, d0, ra⟩) (c := cc) (g := g) 9 (.tuple #[caV cc, .int .i64 0]) (Fr.refl [] V)
      refine invG_op rfl rfl (fun K hK => ?_)
      simp only [putG, putT, List.setIfInBounds_toArray, List.set_cons_succ, List.set_cons_zero] at hK ⊢
      simp only [upG, Nat.reduceEqDiff, if_false, if_true] at hK
      rw [xt] at hK ⊢
      go_simp
      exact hK _ _ hS rfl (fun j hj _ hb h => h' j hj (by simp) h)
    · have xt : g 9 = .tuple #[caV cc, .int .i64 0] := hD 9 (by simp)
      have h' := TcP.same (N := WD.heap.size) (o := ⟨pnu, pce, d2 + 172800⟩) (r := ⟨d1, d0, ra⟩) (c := cc) (g := g) 10 (caV cc) (Fr.refl [] V)
      refine invG_op rfl rfl (fun K hK => ?_)
      simp only [putG, putT, List.setIfInBounds_toArray, List.set_cons_succ, List.set_cons_zero] at hK ⊢
      simp only [upG, Nat.reduceEqDiff, if_false, if_true] at hK
      rw [xt] at hK ⊢
      go_simp
      exact hK _ _ hS rfl (fun j hj _ hb h => h' j hj (by simp) h)
    · have xt : g 9 = .tuple #[caV cc, .int .i64 0] := hD 9 (by simp)
      have h' := TcP.same (N := WD.heap.size) (o := ⟨pnu, pce, d2 + 172800⟩) (r := ⟨d1, d0, ra⟩) (c := cc) (g := g) 11 (.int .i64 0) (Fr.refl [] V)
      refine invG_op rfl rfl (fun K hK => ?_)
      simp only [putG, putT, List.setIfInBounds_toArray, List.set_cons_succ, List.set_cons_zero] at hK ⊢
      simp only [upG, Nat.reduceEqDiff, if_false, if_true] at hK
      rw [xt] at hK ⊢
      go_simp
      exact hK _ _ hS rfl (fun j hj _ hb h => h' j hj (by simp) h)
    · have f2 := Fr.alloc [] V (.cells #[.int .i64 0, .int .i64 0, .int .i64 0, .int .i64 0, .int .i64 0, .bool false] 54)
      have h' := TcP.same (N := WD.heap.size) (o := ⟨pnu, pce, d2 + 172800⟩) (r := ⟨d1, d0, ra⟩) (c := cc) (g := g) 12 (.pointer (some ⟨V.heap.size, 0, none⟩)) f2
      refine invG_op rfl rfl (fun K hK => ?_)
      simp only [putG, putT, List.setIfInBounds_toArray, List.set_cons_succ, List.set_cons_zero] at hK ⊢
      go_simp
      exact hK _ _ (hS.trans f2) ⟨_, rfl, heap_alloc_new _ _, HNW.out _ hS⟩ (fun j hj _ hb h => h' j hj (fun hm => hb (by simp at hm ⊢; omega)) h)
    · have xv : g 10 = caV cc := hD 10 (by simp)
      obtain ⟨B, xB, hB, nB⟩ := hD 12 (by simp)
      obtain ⟨c0, c1, c2, c3, c4, c5⟩ := cc
      refine invG_op (o := ⟨none, _, _, _, _, _⟩) rfl rfl (fun K hK => ?_)
      simp only [putG, putT, List.setIfInBounds_toArray, List.set_cons_succ, List.set_cons_zero] at hK ⊢
      simp only [upG, Nat.reduceEqDiff, if_false] at hK
      rw [xv, xB] at hK ⊢
      have t0 := cell_of_blk hB 0; have t1 := cell_of_blk hB 1; have t2 := cell_of_blk hB 2; have t3 := cell_of_blk hB 3; have t4 := cell_of_blk hB 4; have t5 := cell_of_blk hB 5
      have r0 := free_of_blk hB 0; have r1 := free_of_blk hB 1; have r2 := free_of_blk hB 2; have r3 := free_of_blk hB 3; have r4 := free_of_blk hB 4; have r5 := free_of_blk hB 5
      go_simp
      try go_upon
      try go_simp
      obtain ⟨KS, FS⟩ := set6c hB (.int .i64 c0) (.int .i64 c1) (.int .i64 c2) (.int .i64 c3) (.int .i64 c4) (.bool c5)
      exact hK undef _ (hS.step FS (fun i hi => .inr (by simp at hi; omega))) ⟨B, by rw [upG_ne g undef (by decide)]; exact xB, KS, nB⟩ (fun j hj hc _ h => TcP.store undef j hj hc h)
    obtain ⟨bC, xB, hB, nB⟩ := hD (13, [10, 12]) (by simp) (by simp)
    have xe : g 11 = .int .i64 0 := hD (11, [9]) (by simp) (by simp)
    refine inv_fin rfl rfl (fun K hK => ?_)
    simp only [putG, putT, List.setIfInBounds_toArray, List.set_cons_succ, List.set_cons_zero] at hK ⊢
    rw [xB, xe]
    go_simp
    refine hK _ _ ?_
    clear hK K hD FC
    refine noPanic_nmZ ?_
    generalize g 0 = uc0 at *
    generalize g 2 = uc2 at *
    generalize g 4 = uc4 at *
    generalize g 6 = uc6 at *
    generalize g 7 = uc7 at *
    generalize g 8 = uc8 at *
    generalize g 9 = uc9 at *
    generalize g 10 = uc10 at *
    clear xB xe e0 e1 e2 e3 e4 x0 x1 x2 HNW CT2
    have A10 := Lib.hid (hS.keep A9.out (by simp)); have D10 := Lib.hid (hS.keep D9.out (by simp)); have BR10 := Lib.hid (hS.keep BR9.out (by simp)); have HO10 := Lib.hid (hS.keep HO9.out (by simp))
    have FX := Lib.hid hS
    have BC10 := Lib.hid hB
    have hnC : W4.heap.size ≤ bC := Nat.le_trans F49.out.size nB
    clear hS hB A9 D9 BR9 HO9
    have HS1 : Hid (Sl WE (.slice (some ⟨bO, 0, none⟩) 1 1) 1 (rsC ⟨pnu, pce, d2 + 172800⟩)) := Lib.hid (sl_blk HO10.out rfl (by omega) (by omega))
    have e0 := cell_of_blk A10.out 0; have e1 := cell_of_blk A10.out 1; have e2 := cell_of_blk A10.out 2; have e3 := cell_of_blk A10.out 3; have e4 := cell_of_blk A10.out 4
    obtain ⟨cd, hcd⟩ : ∃ cd : Ca, cd = ⟨d0, d1, d2 + 172800, lc, 0, bo⟩ := ⟨_, rfl⟩
    have HCD := Lib.hid hcd
    rw [← hcd] at CT1
    clear hcd
    go_wp2_with fail
    refine reg_invG (C := [(0, 8), (7, 8)]) (B := [(8, 7)]) (Fr [] WE) 9 [1, 2] [(0, []), (3, [0]), (4, [3]), (5, [4]), (6, [4]), (7, []), (8, [5, 7])] (by kernel_rfl) (by kernel_rfl) (by kernel_rfl) (by kernel_rfl) (by kernel_rfl) ?_
    have FC : Fr [] WE WE.drew := Fr.drew _ _
    have HNW : Hid (∀ V : World, Fr [] WE V → WE.heap.size ≤ V.heap.size) := Lib.hid fun V h => h.size
    iterate 2 (refine tk_take (v := ?_) rfl rfl rfl FC (fun w hS => ?_) ?_; rotate_left; (focus (have u0 := hS.cel e0 (by simp); have u1 := hS.cel e1 (by simp); have u2 := hS.cel e2 (by simp); have u3 := hS.cel e3 (by simp); have u4 := hS.cel e4 (by simp); clear hS; go_simp; rfl)); simp only [List.setIfInBounds_toArray, List.set_cons_succ, List.set_cons_zero])
    refine invG_start [(0, 111), (3, 114), (4, 110), (5, 115), (6, 116), (7, 29)] (TdP WE.heap.size cd) (by decide) FC ⟨fun g V hS hD => ?_, fun g V hS hD => ?_, fun g V hS hD => ?_, fun g V hS hD => ?_, fun g V hS hD => ?_, fun g V hS hD => ?_, fun g V hS hD => ?_, trivial⟩ (fun g WF hS hD => ?_)
    · refine invG_op rfl rfl (fun K hK => ?_)
      simp only [putG, putT, List.setIfInBounds_toArray, List.set_cons_succ, List.set_cons_zero] at hK ⊢
      go_simp
      refine (CA.out _).mono ?_
      rintro e V2 ⟨v2, rfl, hk2⟩
      obtain ⟨aK, cK, hv2⟩ := (sl_of_row hk2.row).val
      rw [allK_len] at hv2
      subst hv2
      have hr2 := hk2.row
      rw [allK_len] at hr2
      have h' := TdP.same (N := WE.heap.size) (c := cd) (g := g) 0 (.slice aK 8 cK) hk2.fr
      exact hK _ _ (hS.trans hk2.fr) ⟨_, _, rfl, hr2⟩ (fun j hj _ hb h => h' j hj (by simp) h)
    · obtain ⟨aK, cK, x0, hr0⟩ := hD 0 (by simp)
      refine invG_op rfl rfl (fun K hK => ?_)
      simp only [putG, putT, List.setIfInBounds_toArray, List.set_cons_succ, List.set_cons_zero] at hK ⊢
      simp only [upG, Nat.reduceEqDiff, if_false, if_true] at hK
      rw [x0] at hK ⊢
      go_simp
      refine (CT1.out V (FX.out.trans hS) _ _ (sl_of_row hr0) (HS1.out.same hS)).mono ?_
      rintro e V2 ⟨rfl, f2⟩
      have h' := TdP.same (N := WE.heap.size) (c := cd) (g := g) 3 (.tuple #[caV cd, .int .i64 0]) f2
      exact hK _ _ (hS.trans f2) rfl (fun j hj _ hb h => h' j hj (by simp) h)
    · have xt : g 3 = .tuple #[caV cd, .int .i64 0] := hD 3 (by simp)
      have h' := TdP.same (N := WE.heap.size) (c := cd) (g := g) 4 (.tuple #[caV cd, .int .i64 0]) (Fr.refl [] V)
      refine invG_op rfl rfl (fun K hK => ?_)
      simp only [putG, putT, List.setIfInBounds_toArray, List.set_cons_succ, List.set_cons_zero] at hK ⊢
      simp only [upG, Nat.reduceEqDiff, if_false, if_true] at hK
      rw [xt] at hK ⊢
      go_simp
      exact hK _ _ hS rfl (fun j hj _ hb h => h' j hj (by simp) h)
    · have xt : g 4 = .tuple #[caV cd, .int .i64 0] := hD 4 (by simp)
      have h' := TdP.same (N := WE.heap.size) (c := cd) (g := g) 5 (caV cd) (Fr.refl [] V)
      refine invG_op rfl rfl (fun K hK => ?_)
      simp only [putG, putT, List.setIfInBounds_toArray, List.set_cons_succ, List.set_cons_zero] at hK ⊢
      simp only [upG, Nat.reduceEqDiff, if_false, if_true] at hK
      rw [xt] at hK ⊢
      go_simp
      exact hK _ _ hS rfl (fun j hj _ hb h => h' j hj (by simp) h)
    · have xt : g 4 = .tuple #[caV cd, .int .i64 0] := hD 4 (by simp)
      have h' := TdP.same (N := WE.heap.size) (c := cd) (g := g) 6 (.int .i64 0) (Fr.refl [] V)
      refine invG_op rfl rfl (fun K hK => ?_)
      simp only [putG, putT, List.setIfInBounds_toArray, List.set_cons_succ, List.set_cons_zero] at hK ⊢
      simp only [upG, Nat.reduceEqDiff, if_false, if_true] at hK
      rw [xt] at hK ⊢
      go_simp
      exact hK _ _ hS rfl (fun j hj _ hb h => h' j hj (by simp) h)
    · have f2 := Fr.alloc [] V (.cells #[.int .i64 0, .int .i64 0, .int .i64 0, .int .i64 0, .int .i64 0, .bool false] 54)
      have h' := TdP.same (N := WE.heap.size) (c := cd) (g := g) 7 (.pointer (some ⟨V.heap.size, 0, none⟩)) f2
      refine invG_op rfl rfl (fun K hK => ?_)
      simp only [putG, putT, List.setIfInBounds_toArray, List.set_cons_succ, List.set_cons_zero] at hK ⊢
      go_simp
      exact hK _ _ (hS.trans f2) ⟨_, rfl, heap_alloc_new _ _, HNW.out _ hS⟩ (fun j hj _ hb h => h' j hj hb h)
    · have xv : g 5 = caV cd := hD 5 (by simp)
      obtain ⟨B, xB, hB, nB⟩ := hD 7 (by simp)
      obtain ⟨c0, c1, c2, c3, c4, c5⟩ := cd
      refine invG_op (o := ⟨none, _, _, _, _, _⟩) rfl rfl (fun K hK => ?_)
      simp only [putG, putT, List.setIfInBounds_toArray, List.set_cons_succ, List.set_cons_zero] at hK ⊢
      simp only [upG, Nat.reduceEqDiff, if_false] at hK
      rw [xv, xB] at hK ⊢
      have t0 := cell_of_blk hB 0; have t1 := cell_of_blk hB 1; have t2 := cell_of_blk hB 2; have t3 := cell_of_blk hB 3; have t4 := cell_of_blk hB 4; have t5 := cell_of_blk hB 5
      have r0 := free_of_blk hB 0; have r1 := free_of_blk hB 1; have r2 := free_of_blk hB 2; have r3 := free_of_blk hB 3; have r4 := free_of_blk hB 4; have r5 := free_of_blk hB 5
      go_simp
      try go_upon
      try go_simp
      obtain ⟨KS, FS⟩ := set6c hB (.int .i64 c0) (.int .i64 c1) (.int .i64 c2) (.int .i64 c3) (.int .i64 c4) (.bool c5)
      exact hK undef _ (hS.step FS (fun i hi => .inr (by simp at hi; omega))) ⟨B, by rw [upG_ne g undef (by decide)]; exact xB, KS, nB⟩ (fun j hj hc _ h => TdP.store undef j hj hc h)
    obtain ⟨bE, xB, hB, nB⟩ := hD (8, [5, 7]) (by simp) (by simp)
    have xe : g 6 = .int .i64 0 := hD (6, [4]) (by simp) (by simp)
    refine inv_fin rfl rfl (fun K hK => ?_)
    simp only [putG, putT, List.setIfInBounds_toArray, List.set_cons_succ, List.set_cons_zero] at hK ⊢
    rw [xB, xe]
    go_simp
    refine hK _ _ ?_
    clear hK K hD FC
    refine noPanic_nmZ ?_
    generalize g 0 = ud0 at *
    generalize g 3 = ud3 at *
    generalize g 4 = ud4 at *
    generalize g 5 = ud5 at *
    clear xB xe e0 e1 e2 e3 e4 HNW CT1 HS1 CA
    have D11 := Lib.hid (hS.keep D10.out (by simp)); have BR11 := Lib.hid (hS.keep BR10.out (by simp)); have HO11 := Lib.hid (hS.keep HO10.out (by simp)); have BC11 := Lib.hid (hS.keep BC10.out (by simp))
    have F411 := Lib.hid ((F49.out.trans FX.out).trans hS)
    have BE11 := Lib.hid hB
    clear hS hB A10 D10 BR10 HO10 BC10 FX F49
    have hCCv := HCC.out
    have hCDv := HCD.out
    subst hCCv hCDv
    have r0 := cell_of_blk D11.out 0; have r1 := cell_of_blk D11.out 1; have r2 := cell_of_blk D11.out 2
    have s0 := cell_of_blk BR11.out 2
    have o0 := cell_of_blk HO11.out 0; have o1 := cell_of_blk HO11.out 1
    have c5 := cell_of_blk BC11.out 5; have k5 := cell_of_blk BE11.out 5
    go_upto_region 23 with fail
    go_cut [31] from 123 (fun s W => s = .bool bo ∧ Hid (Fr [] WF W))
    case first =>
      by_cases hp : pnu = d1
      · have hb : (pnu == d1) = true := beq_iff_eq.2 hp
        have hd : Hid (decide (pnu = d1) = true) := Lib.hid (decide_eq_true hp)
        clear hp
        refine reg_mix (Fr [] WF) [0, 1, 2, 3, 4, 5, 6, 7, 8, 9, 10, 11, 12, 13, 14, 15, 16] (by kernel_rfl) (by kernel_rfl) (by kernel_rfl) rfl (Fr.drew _ _) ?_
        have FC : Fr [] WF WF.drew := Fr.drew _ _
        generalize WF.drew = WC at FC ⊢
        iterate 7 (refine mix_take1 (v := ?_) rfl rfl rfl rfl (fun w hS => ?_) ?_; rotate_left; (focus (have v0 := hS.cel o0 (by simp); have v1 := hS.cel o1 (by simp); have v2 := hS.cel r0 (by simp); have v3 := hS.cel r1 (by simp); clear hS; first | (go_simp; rfl) | rfl)); simp only [List.setIfInBounds_toArray, List.set_cons_succ, List.set_cons_zero])
        try rw [hb]
        (refine mix_take1 (v := ?_) rfl rfl rfl rfl (fun w hS => ?_) ?_; rotate_left; (focus (have v0 := hS.cel o0 (by simp); have v1 := hS.cel o1 (by simp); have v2 := hS.cel r0 (by simp); have v3 := hS.cel r1 (by simp); clear hS; first | (go_simp; rfl) | rfl)); simp only [List.setIfInBounds_toArray, List.set_cons_succ, List.set_cons_zero])
        iterate 7 (refine mix_takeg (v := ?_) rfl rfl rfl rfl rfl rfl (fun w hS => ?_) ?_; rotate_left; (focus (have v0 := hS.cel o0 (by simp); have v1 := hS.cel o1 (by simp); have v2 := hS.cel r0 (by simp); have v3 := hS.cel r1 (by simp); clear hS; first | (go_simp; rfl) | rfl)); simp only [List.setIfInBounds_toArray, List.set_cons_succ, List.set_cons_zero])
        iterate 2 (refine mix_take1 (v := ?_) rfl rfl rfl rfl (fun w hS => ?_) ?_; rotate_left; (focus (have v0 := hS.cel o0 (by simp); have v1 := hS.cel o1 (by simp); have v2 := hS.cel r0 (by simp); have v3 := hS.cel r1 (by simp); clear hS; first | (go_simp; rfl) | rfl)); simp only [List.setIfInBounds_toArray, List.set_cons_succ, List.set_cons_zero])
        refine mix_end ?_
        go_wp2_with fail
        go_meet
        case rel => exact ⟨by rw [HOW.out, hd.out, Bool.true_and]; rfl, Lib.hid FC⟩
      · have hb : (pnu == d1) = false := beq_eq_false_iff_ne.2 hp
        have hd : Hid (decide (pnu = d1) = false) := Lib.hid (decide_eq_false hp)
        clear hp
        refine reg_mix (Fr [] WF) [0, 1, 2, 3, 4, 5, 6, 7, 8, 9, 10, 11, 12, 13, 14, 15, 16] (by kernel_rfl) (by kernel_rfl) (by kernel_rfl) rfl (Fr.drew _ _) ?_
        have FC : Fr [] WF WF.drew := Fr.drew _ _
        generalize WF.drew = WC at FC ⊢
        iterate 7 (refine mix_take1 (v := ?_) rfl rfl rfl rfl (fun w hS => ?_) ?_; rotate_left; (focus (have v0 := hS.cel o0 (by simp); have v1 := hS.cel o1 (by simp); have v2 := hS.cel r0 (by simp); have v3 := hS.cel r1 (by simp); clear hS; first | (go_simp; rfl) | rfl)); simp only [List.setIfInBounds_toArray, List.set_cons_succ, List.set_cons_zero])
        try rw [hb]
        (refine mix_take1 (v := ?_) rfl rfl rfl rfl (fun w hS => ?_) ?_; rotate_left; (focus (have v0 := hS.cel o0 (by simp); have v1 := hS.cel o1 (by simp); have v2 := hS.cel r0 (by simp); have v3 := hS.cel r1 (by simp); clear hS; first | (go_simp; rfl) | rfl)); simp only [List.setIfInBounds_toArray, List.set_cons_succ, List.set_cons_zero])
        iterate 7 (refine mix_skipT rfl rfl rfl rfl rfl FC ?_; simp only [List.setIfInBounds_toArray, List.set_cons_succ, List.set_cons_zero])
        iterate 2 (refine mix_take1 (v := ?_) rfl rfl rfl rfl (fun w hS => ?_) ?_; rotate_left; (focus (have v0 := hS.cel o0 (by simp); have v1 := hS.cel o1 (by simp); have v2 := hS.cel r0 (by simp); have v3 := hS.cel r1 (by simp); clear hS; first | (go_simp; rfl) | rfl)); simp only [List.setIfInBounds_toArray, List.set_cons_succ, List.set_cons_zero])
        refine mix_end ?_
        go_wp2_with fail
        go_meet
        case rel => exact ⟨by rw [HOW.out, hd.out, Bool.false_and], Lib.hid FC⟩
    case rest =>
    obtain ⟨rfl, HFG⟩ := hcut
    rename_i K0 hK0
    refine hK0 _ _ ?_
    clear hK0 K0
    have hfg := HFG.out
    have D12 := Lib.hid (hfg.keep D11.out (by simp)); have BC12 := Lib.hid (hfg.keep BC11.out (by simp)); have BE12 := Lib.hid (hfg.keep BE11.out (by simp)); have BR12 := Lib.hid (hfg.keep BR11.out (by simp))
    have F412 := Lib.hid (F411.out.trans hfg)
    clear hfg r0 r1 r2 s0 o0 o1 c5 k5 D11 BC11 BE11 BR11 F411 HO11 HFG
    have r2 := cell_of_blk D12.out 2
    have s0 := cell_of_blk BR12.out 2
    go_upto_region 24 with fail
    go_cut [32] from 139 (fun s W => s = .bool bi ∧ Hid (W = wc))
    case first =>
      by_cases hp : ra ≤ d2 + 172800
      · have hb : decide (ra ≤ d2 + 172800) = true := decide_eq_true hp
        go_wp2_with fail
        go_meet
        case rel => exact ⟨by rw [HIN.out, hb, Bool.true_and], Lib.hid rfl⟩
      · have hb : decide (ra ≤ d2 + 172800) = false := decide_eq_false hp
        go_wp2_with fail
        go_meet
        case rel => exact ⟨by rw [HIN.out, hb, Bool.false_and], Lib.hid rfl⟩
    case rest =>
    obtain ⟨rfl, HWW⟩ := hcut
    have hWW := HWW.out
    subst hWW
    rename_i K0 hK0
    refine hK0 _ _ ?_
    clear hK0 K0 r2 s0 HWW
    have c5 := cell_of_blk BC12.out 5; have k5 := cell_of_blk BE12.out 5
    go_upto_region 25 with fail
    go_cut [164] from 152 (fun s W => s = .bool false ∧ Hid (W = wc))
    case first =>
      clear LF4 LB4 RO4 RB4 HOW HIN HDB
      cases bo <;> cases bi
      all_goals (go_wp2_with fail; go_meet; exact ⟨rfl, Lib.hid rfl⟩)
    case rest =>
    obtain ⟨rfl, HWW⟩ := hcut
    have hWW := HWW.out
    subst hWW
    rename_i K0 hK0
    refine hK0 _ _ ?_
    clear hK0 K0 HWW c5 k5
    have hflt := blk_lt LB4.out
    have hrbt := blk_lt RB4.out
    have w0 := cell_of_blk BC12.out 0; have w1' := cell_of_blk BC12.out 1; have w2' := cell_of_blk BC12.out 2; have w3' := cell_of_blk BC12.out 3; have w4' := cell_of_blk BC12.out 4
    have c5 := cell_of_blk BC12.out 5; have z5 := free_of_blk BC12.out 5
    have g0 := F412.out.cel (cell_of_blk LB4.out 0) (by simp); have g1 := F412.out.cel (cell_of_blk LB4.out 1) (by simp)
    have r0 := F412.out.cel (cell_of_blk RB4.out 0) (by simp); have r1 := F412.out.cel (cell_of_blk RB4.out 1) (by simp); have r2 := F412.out.cel (cell_of_blk RB4.out 2) (by simp)
    have HS12 := Lib.hid F412.out.size
    go_wp2_with fail
    have fw := Fr.setCell (fp := [bC]) (p := ⟨bC, 5, none⟩) wc (.bool true) (by simp)
    have hbc : W4.heap.size ≤ bC := hnC
    have hFO : FlOwn w1.heap.size _ (.slice av ys.length pv) ys := (LF4.out.1.same F412.out).fr fw (fun g hg hm => by have := ownsRow_lt LF4.out.1.row hg; simp at hm; omega) (fun y hy g hg hm => by have := ownsRow_lt (LF4.out.1.cds y hy) hg; simp at hm; omega)
    have hRO : RbOwn w1.heap.size _ _ _ _ zs b := (RO4.out.1.same F412.out).frH fw (fun g hg hm => by have := RO4.out.1.lt hg; simp at hm; omega)
    have HFL := Lib.hid (hFO.at_ LF4.out.2.1 (actB_i64 LF4.out.2.2.2))
    have HRB := Lib.hid (hRO.at_ RO4.out.2.ok)
    have hca : caB ⟨d0, d1, d2 + 172800, lc, 0, true⟩ = true := by
      simp only [caB, Bool.and_eq_true, isInB_iff]
      omega
    have hco : CaOk ⟨d0, d1, d2 + 172800, lc, 0, true⟩ := by constructor <;> (unfold I64; simp only; omega)
    have HGD := Lib.hid (goodF_of (f := flOf ys dfl) (LF4.out.2.1.flB (dfl := dfl) (by have := LF4.out.2.2.1; omega) LF4.out.2.2.2) RO4.out.2 hca)
    have HCO := Lib.hid hco
    have CD := Lib.hid (cbDecide (.slice av ys.length pv) ys (flOf ys dfl) (.slice ac zs.length pc) (.slice ar b.rps.length pr) (.slice af b.fas.length pf) zs b ⟨d0, d1, d2 + 172800, lc, 0, true⟩ _ HFL.out HRB.out hco HGD.out rfl)
    simp only at CD
    have HTT := Lib.hid (heap_setCell_same (i := 5) (.bool true) BC12.out)
    have FLB := Lib.hid (fw.keep (F412.out.keep LB4.out (by simp)) (by simp; omega)); have FRB := Lib.hid (fw.keep (F412.out.keep RB4.out (by simp)) (by simp; omega))
    have F4H : Hid (Fr [] w _) := Lib.hid ((F4.out.trans F412.out).step fw (fun g hg => .inr (by have := F4.out.size; simp at hg; omega)))
    generalize wc.setCell ⟨bC, 5, none⟩ (.bool true) = WH at *
    clear w0 w1' w2' w3' w4' c5 z5 g0 g1 r0 r1 r2 fw hFO hRO hca hco HS12 hbc LF4 RO4 LB4 RB4 F412 F4 BC12 BE12 BR12 D12
    refine CD.out.mono ?_
    rintro e W13 ⟨f13, aF, pF, aP, pP, rfl, hF0, hP0⟩
    have f14 := f13.trans (Fr.alloc [] W13 (.cells #[.int .i64 1, .int .i64 (-2), .slice aF 0 pF, .slice aP 0 pP] 75))
    have HDe := Lib.hid (heap_alloc_new W13 (.cells #[.int .i64 1, .int .i64 (-2), .slice aF 0 pF, .slice aP 0 pP] 75))
    have HF0 := Lib.hid (hF0.same (Fr.alloc [] W13 (.cells #[.int .i64 1, .int .i64 (-2), .slice aF 0 pF, .slice aP 0 pP] 75)))
    have HP0 := Lib.hid (hP0.same (Fr.alloc [] W13 (.cells #[.int .i64 1, .int .i64 (-2), .slice aF 0 pF, .slice aP 0 pP] 75)))
    have F14 := Lib.hid f14
    generalize hbD : W13.heap.size = bD at *
    have HW14 : Hid (∀ W, Fr [] (W13.alloc (.cells #[.int .i64 1, .int .i64 (-2), .slice aF 0 pF, .slice aP 0 pP] 75)) W → _) := Lib.hid fun W hf => And.intro (f14.trans hf) (And.intro (hf.keep HDe.out (by simp)) (And.intro (HF0.out.same hf) (HP0.out.same hf)))
    clear CD f13 hF0 hP0 f14 HDe HF0 HP0 F14
    have HX : Hid (∀ W, Fr [] WH W → _) := Lib.hid fun W hf => And.intro (hf.keep FLB.out (by simp)) (And.intro (hf.keep FRB.out (by simp)) (show W.heap[bC]? = some (.cells #[.int .i64 d0, .int .i64 d1, .int .i64 (d2 + 172800), .int .i64 lc, .int .i64 0, .bool true] 54) from hf.keep HTT.out (by simp)))
    have HC := Lib.hid fun W (hf : Fr [] WH W) x r aF pF aP pP hF hP => cbCheck (.slice av ys.length pv) ys (flOf ys dfl) (.slice ac zs.length pc) (.slice ar b.rps.length pr) (.slice af b.fas.length pf) zs b ⟨d0, d1, d2 + 172800, lc, 0, true⟩ x r aF aP pF pP W (HFL.out.same hf) (HRB.out.same hf) HCO.out HGD.out rfl hF hP
    simp only at HC
    have h14 := HW14.out _ (Fr.refl _ _)
    have g0 := cell_of_blk (HX.out _ h14.1).1 0; have g1 := cell_of_blk (HX.out _ h14.1).1 1
    have r0 := cell_of_blk (HX.out _ h14.1).2.1 0; have r1 := cell_of_blk (HX.out _ h14.1).2.1 1; have r2 := cell_of_blk (HX.out _ h14.1).2.1 2
    have c0 := cell_of_blk (HX.out _ h14.1).2.2 0; have c1 := cell_of_blk (HX.out _ h14.1).2.2 1; have c2 := cell_of_blk (HX.out _ h14.1).2.2 2; have c3 := cell_of_blk (HX.out _ h14.1).2.2 3; have c4 := cell_of_blk (HX.out _ h14.1).2.2 4; have c5 := cell_of_blk (HX.out _ h14.1).2.2 5
    have e0 := cell_of_blk h14.2.1 0; have e1 := cell_of_blk h14.2.1 1; have e2 := cell_of_blk h14.2.1 2; have e3 := cell_of_blk h14.2.1 3
    have CK1 := Lib.hid (HC.out _ h14.1 1 (-2) aF pF aP pP h14.2.2.1 h14.2.2.2)
    have HF14 := Lib.hid h14.1
    clear h14
    go_wp2_with fail
    generalize W13.alloc (.cells #[.int .i64 1, .int .i64 (-2), .slice aF 0 pF, .slice aP 0 pP] 75) = W14 at *
    refine CK1.out.mono ?_
    rintro e w15 ⟨rfl, f15⟩
    have f15' := HF14.out.trans f15
    have HF15 := Lib.hid f15'
    have CK2 := Lib.hid (HC.out _ f15' 4 (-2) none 0 none 0 (Sl.nil _) ⟨Sl.nil _, fun z hz => by cases hz⟩)
    have g0 := cell_of_blk (HX.out _ f15').1 0; have g1 := cell_of_blk (HX.out _ f15').1 1
    have r0 := cell_of_blk (HX.out _ f15').2.1 0; have r1 := cell_of_blk (HX.out _ f15').2.1 1; have r2 := cell_of_blk (HX.out _ f15').2.1 2
    have c0 := cell_of_blk (HX.out _ f15').2.2 0; have c1 := cell_of_blk (HX.out _ f15').2.2 1; have c2 := cell_of_blk (HX.out _ f15').2.2 2; have c3 := cell_of_blk (HX.out _ f15').2.2 3; have c4 := cell_of_blk (HX.out _ f15').2.2 4; have c5 := cell_of_blk (HX.out _ f15').2.2 5
    clear f15 f15' CK1 e0 e1 e2 e3
    simp only [decide_true, Bool.and_true]
    go_wp2_with fail
    refine CK2.out.mono ?_
    rintro e w16 ⟨rfl, f16⟩
    have f16' := HF15.out.trans f16
    have HF16 := Lib.hid f16'
    have CK3 := Lib.hid (HC.out _ f16' dfl (-1) none 0 none 0 (Sl.nil _) ⟨Sl.nil _, fun z hz => by cases hz⟩)
    have g0 := cell_of_blk (HX.out _ f16').1 0; have g1 := cell_of_blk (HX.out _ f16').1 1
    have r0 := cell_of_blk (HX.out _ f16').2.1 0; have r1 := cell_of_blk (HX.out _ f16').2.1 1; have r2 := cell_of_blk (HX.out _ f16').2.1 2
    have c0 := cell_of_blk (HX.out _ f16').2.2 0; have c1 := cell_of_blk (HX.out _ f16').2.2 1; have c2 := cell_of_blk (HX.out _ f16').2.2 2; have c3 := cell_of_blk (HX.out _ f16').2.2 3; have c4 := cell_of_blk (HX.out _ f16').2.2 4; have c5 := cell_of_blk (HX.out _ f16').2.2 5
    clear f16 f16' CK2
    simp only [decide_true]
    go_wp2_with fail
    refine CK3.out.mono ?_
    rintro e w17 ⟨rfl, f17⟩
    have HF17 := Lib.hid (HF16.out.trans f17)
    simp only []
    clear f17 g0 g1 r0 r1 r2 c0 c1 c2 c3 c4 c5
    go_wp2_with fail
    all_goals (go_ret; exact ⟨rfl, (F4H.out.trans HF17.out).below⟩)

theorem var_heapT {P : Program} {W : World} {n : String} {g : Nat} {cs : Array Value} (hg : P.globalNamed n = some g) (h : W.var? P n = some cs) : ∃ t fz, W.heap[g]? = some (.cells cs t fz) := by
  unfold World.var? at h
  simp only [hg, Option.bind_some] at h
  split at h
  · rename_i cs' t fz heq
    cases h
    exact ⟨t, fz, heq⟩
  · cases h
theorem rnd_of_laidT {W : World} {r : List (String × DataW Unit)} (h2 : laidMet Tryz.prog (("dialtone/digest.round", Rows.laid_dialtone_digest_round) :: r) W) : RndAt W := by
  have e : (Rows.laid_dialtone_digest_round : DataW Unit) = Lib.tabData .u32 kTab := rfl
  rw [e] at h2
  have h3 := Lib.tabIs_of_head (P := Tryz.prog) (g := 0) (by kernel_rfl) (by kernel_rfl) Tryz.underlying270 Tryz.underlying225 (by kernel_rfl) (by kernel_rfl) h2
  unfold Lib.TabIs at h3
  exact var_heapT (by kernel_rfl) h3

set_option maxRecDepth 100000 in
theorem walk_FilterCallbacks {H : Type} {enc : TypeId × Value → H} {base : Nat} (W : World) {v0 v1 v2 v3 v4 v5 v6 v7 : Value} {d0 d1 d2 d3 d4 d5 d6 d7 : DataW H} {p0 p1 p2 p3 p4 p5 p6 p7 : List MemPlace} (hR : RndAt W) (k0 : Value.okWide Tryz.prog W .any base 79 v0) (h0 : DataW.Trod enc Tryz.prog W 0 (fun _ => true) true 79 v0 d0 p0) (k1 : Value.okWide Tryz.prog W .any base 23 v1) (h1 : DataW.Trod enc Tryz.prog W 0 (fun _ => true) true 23 v1 d1 p1) (k2 : Value.okWide Tryz.prog W .any base 3 v2) (h2 : DataW.Trod enc Tryz.prog W 0 (fun _ => true) true 3 v2 d2 p2) (k3 : Value.okWide Tryz.prog W .any base 30 v3) (h3 : DataW.Trod enc Tryz.prog W 0 (fun _ => true) true 30 v3 d3 p3) (k4 : Value.okWide Tryz.prog W .any base 26 v4) (h4 : DataW.Trod enc Tryz.prog W 0 (fun _ => true) true 26 v4 d4 p4) (k5 : Value.okWide Tryz.prog W .any base 3 v5) (h5 : DataW.Trod enc Tryz.prog W 0 (fun _ => true) true 3 v5 d5 p5) (k6 : Value.okWide Tryz.prog W .any base 3 v6) (h6 : DataW.Trod enc Tryz.prog W 0 (fun _ => true) true 3 v6 d6 p6) (k7 : Value.okWide Tryz.prog W .any base 3 v7) (h7 : DataW.Trod enc Tryz.prog W 0 (fun _ => true) true 3 v7 d7 p7) :
    Calls Tryz.prog 4 #[v0, v1, v2, v3, v4, v5, v6, v7] W fun e W' => e = .returned (.bool true) ∧ Below W.heap.size W W' := by
  obtain ⟨nx, xs, hx⟩ := open_x3s k0 h0
  obtain ⟨ms, hm, hmi⟩ := open_ints k1 h1
  obtain ⟨a, rfl, ha⟩ := open_i64 Tryz.underlying3 k2 h2
  obtain ⟨_, _, _, n1, n2, n3, is1, is2, is3, rfl, b1, b2, b3⟩ := open_numbers k3 h3
  obtain ⟨q0, q1, q2, q3, lev, vc, F, e0, e1, e2, e3, e4, e5, e6, e7, rfl, ⟨g0, g1, g2, g3⟩, gl, ⟨hF, hFi⟩, hks⟩ := open_nums25 k4 h4
  obtain ⟨b, rfl, hb⟩ := open_i64 Tryz.underlying3 k5 h5
  obtain ⟨c, rfl, hc⟩ := open_i64 Tryz.underlying3 k6 h6
  obtain ⟨d, rfl, hd⟩ := open_i64 Tryz.underlying3 k7 h7
  exact callbacks_c _ _ nx xs ms a _ _ _ n1 n2 n3 is1 is2 is3 q0 q1 q2 q3 lev vc F e0 e1 e2 e3 e4 e5 e6 e7 b c d W hR hx hm hmi ⟨ha.1, ha.2⟩ b1 b2 b3 g0 g1 g2 g3 gl hF hFi hks ⟨hb.1, hb.2⟩ ⟨hc.1, hc.2⟩ ⟨hd.1, hd.2⟩

end Go.Proofs.YtahfpadaoobkfaaGreatDoor
