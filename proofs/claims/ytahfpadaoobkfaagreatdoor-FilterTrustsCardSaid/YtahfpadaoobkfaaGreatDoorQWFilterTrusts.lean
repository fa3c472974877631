/-
  The walk of FilterTrusts.
-/
import Derived.Test.YtahfpadaoobkfaaGreatDoorQAtSe
import Derived.Test.YtahfpadaoobkfaaGreatDoorQAtMd
import Derived.Test.YtahfpadaoobkfaaGreatDoorQAtY
import Derived.Test.YtahfpadaoobkfaaGreatDoorQFT
import Derived.Test.YtahfpadaoobkfaaGreatDoorQS29
import Derived.Test.YtahfpadaoobkfaaGreatDoorRows
import Derived.Lib.LaidTab
import Derived.MakeChecks
namespace Go.Proofs.YtahfpadaoobkfaaGreatDoor
open Go.ChangeShapes Go.WideShapes Go.ChangeAt Go.RowKit Go.Deep Go.Lib

theorem i64_or_nat (a b : Nat) (ha : a < 256) (hb : b < 256) : bits .or .i64 (a : Int) (b : Int) = ((a ||| b : Nat) : Int) := by
  have hx : a ||| b < 2 ^ 8 := Nat.or_lt_two_pow (by omega) (by omega)
  have e : ∀ n : Nat, n < 256 → (BitVec.ofInt 64 (n : Int)).toNat = n := fun n h => by
    rw [BitVec.ofInt_natCast, BitVec.toNat_ofNat]; exact Nat.mod_eq_of_lt (by omega)
  show IntKind.i64.wrap ((BitVec.ofInt 64 (a : Int) ||| BitVec.ofInt 64 (b : Int)).toNat : Int) = _
  rw [BitVec.toNat_or, e a ha, e b hb]
  exact IntWalk.i64_in _ (by omega)
/-- An attestation of the law's list. -/
structure AtOk (W : World) (d : Dl) (v : Value) (l : List Hd) : Prop where
  fm : fmB ⟨d, l⟩ = true
  row : W.ownsRow 0 60 3 v l.length (l.flatMap hdC)
theorem AtOk.same {W W' : World} {d : Dl} {v : Value} {l : List Hd} (h : AtOk W d v l) (hf : Fr [] W W') : AtOk W' d v l := ⟨h.fm, row_fr h.row hf (by simp)⟩
/-- What Take answers, with the keys of some carriers. -/
theorem take_c (vK : Value) (s : Nat) (d : Dl) (v : Value) (l : List Hd) (w : World) (hR : RndAt w) (hK : Sl w vK 8 ((knownM allK s).map Value.string)) (h : AtOk w d v l) :
    Calls Tryz.prog 12 #[vK, atV d v, .int .i64 0, .slice none 0 0] w fun e w' => e = .returned (.tuple #[.agg #[.int .i64 d.caller, .int .i64 d.called, .int .i64 d.at_, .int .i64 (chkM (knownM allK s) ⟨d, l⟩).1, .int .i64 0, .bool false], .int .i64 0]) ∧ Fr [] w w' := by
  obtain ⟨hdl, hln, hgo⟩ := fmB_parts h.fm
  simp only at hgo
  have hlen : (knownM allK s).length = 8 := by rw [knownM_len, allK_len]
  have hkb : keysB (knownM allK s) = true := by
    unfold keysB
    rw [hlen, Bool.and_eq_true, List.all_eq_true]
    exact ⟨rfl, fun k hk => by rcases known_size hk with h | h <;> rw [h] <;> rfl⟩
  exact fTake_ok vK (knownM allK s) d v l 0 (.slice none 0 0) [] w hR (by rw [hlen]; exact hK) (fun k hk => by rcases known_size hk with h | h <;> omega) h.row (fun x hx => by have := fmGo_le _ _ _ hgo x hx; omega) (Sl.nil _) (by
    simp only [takeOk, h.fm, hkb, Bool.true_and, List.all_nil, Bool.and_true]
    rfl)

theorem set6 {w : World} {b : Nat} {e : TypeId} {a0 a1 a2 a3 a4 a5 : Value} (h : w.heap[b]? = some (.cells #[a0, a1, a2, a3, a4, a5] e (0, 0))) (u0 u1 u2 u3 u4 u5 : Value) :
    ((((((w.setCell ⟨b, 0, none⟩ u0).setCell ⟨b, 1, none⟩ u1).setCell ⟨b, 2, none⟩ u2).setCell ⟨b, 3, none⟩ u3).setCell ⟨b, 4, none⟩ u4).setCell ⟨b, 5, none⟩ u5).heap[b]? = some (.cells #[u0, u1, u2, u3, u4, u5] e (0, 0)) ∧ Fr [b] w ((((((w.setCell ⟨b, 0, none⟩ u0).setCell ⟨b, 1, none⟩ u1).setCell ⟨b, 2, none⟩ u2).setCell ⟨b, 3, none⟩ u3).setCell ⟨b, 4, none⟩ u4).setCell ⟨b, 5, none⟩ u5) :=
  ⟨heap_setCell_same (i := 5) _ (heap_setCell_same (i := 4) _ (heap_setCell_same (i := 3) _ (heap_setCell_same (i := 2) _ (heap_setCell_same (i := 1) _ (heap_setCell_same (i := 0) _ h))))), (((((Fr.setCell _ _ (by simp)).trans (Fr.setCell _ _ (by simp))).trans (Fr.setCell _ _ (by simp))).trans (Fr.setCell _ _ (by simp))).trans (Fr.setCell _ _ (by simp))).trans (Fr.setCell _ _ (by simp))⟩
-- @@P
/-- What the operations of the first call's region have made; of the second one's. -/
def TrP (N : Nat) (S _T : Nat) (d0 d1 d2 lv : Int) (i : Nat) (g : Nat → Value) (W : World) : Prop := match i with
  | 2 => g 2 = .int .i64 S
  | 3 => ∃ a c, g 3 = .slice a 8 c ∧ Sl W (.slice a 8 c) 8 ((knownM allK S).map Value.string)
  | 5 => g 5 = .tuple #[.agg #[.int .i64 d0, .int .i64 d1, .int .i64 d2, .int .i64 lv, .int .i64 0, .bool false], .int .i64 0]
  | 6 => g 6 = .tuple #[.agg #[.int .i64 d0, .int .i64 d1, .int .i64 d2, .int .i64 lv, .int .i64 0, .bool false], .int .i64 0]
  | 7 => g 7 = .agg #[.int .i64 d0, .int .i64 d1, .int .i64 d2, .int .i64 lv, .int .i64 0, .bool false]
  | 8 => g 8 = .int .i64 0
  | 9 => ∃ B, g 9 = .pointer (some ⟨B, 0, none⟩) ∧ W.heap[B]? = some (.cells #[.int .i64 0, .int .i64 0, .int .i64 0, .int .i64 0, .int .i64 0, .bool false] 54 (0, 0)) ∧ N ≤ B
  | 10 => ∃ B, g 9 = .pointer (some ⟨B, 0, none⟩) ∧ W.heap[B]? = some (.cells #[.int .i64 d0, .int .i64 d1, .int .i64 d2, .int .i64 lv, .int .i64 0, .bool false] 54 (0, 0)) ∧ N ≤ B
  | _ => True
theorem TrP.same {N S T : Nat} {d0 d1 d2 lv : Int} {g : Nat → Value} {W W' : World} (i : Nat) (v : Value) (hf : Fr [] W W') : ∀ j, j ≠ i → (j, i) ∉ [(10, 9)] → TrP N S T d0 d1 d2 lv j g W → TrP N S T d0 d1 d2 lv j (upG g i v) W' := by
  intro j hj hb h
  unfold TrP at h ⊢
  split at h
  · rw [upG_ne g v hj]; exact h
  · obtain ⟨a, c, h1, h2⟩ := h; exact ⟨a, c, by rw [upG_ne g v hj]; exact h1, h2.same hf⟩
  · rw [upG_ne g v hj]; exact h
  · rw [upG_ne g v hj]; exact h
  · rw [upG_ne g v hj]; exact h
  · rw [upG_ne g v hj]; exact h
  · obtain ⟨B, h1, h2, h3⟩ := h; exact ⟨B, by rw [upG_ne g v hj]; exact h1, hf.keep h2 (by simp), h3⟩
  · obtain ⟨B, h1, h2, h3⟩ := h; exact ⟨B, by rw [upG_ne g v (fun e => hb (by rw [← e]; simp))]; exact h1, hf.keep h2 (by simp), h3⟩
  · trivial
theorem TrP.store {N S T : Nat} {d0 d1 d2 lv : Int} {g : Nat → Value} {W W' : World} (v : Value) : ∀ j, j ≠ 10 → (j, 10) ∉ [(3, 5), (3, 10), (9, 10)] → TrP N S T d0 d1 d2 lv j g W → TrP N S T d0 d1 d2 lv j (upG g 10 v) W' := by
  intro j hj hc h
  unfold TrP at h ⊢
  split at h
  · rw [upG_ne g v hj]; exact h
  · exact absurd (by simp) hc
  · rw [upG_ne g v hj]; exact h
  · rw [upG_ne g v hj]; exact h
  · rw [upG_ne g v hj]; exact h
  · rw [upG_ne g v hj]; exact h
  · exact absurd (by simp) hc
  · exact absurd rfl hj
  · trivial
def TrQ (N : Nat) (S T : Nat) (d0 d1 d2 lv : Int) (i : Nat) (g : Nat → Value) (W : World) : Prop := match i with
  | 2 => g 2 = .int .i64 S
  | 4 => g 4 = .int .i64 T
  | 5 => g 5 = .int .i64 ((S ||| T : Nat) : Int)
  | 6 => ∃ a c, g 6 = .slice a 8 c ∧ Sl W (.slice a 8 c) 8 ((knownM allK (S ||| T)).map Value.string)
  | 8 => g 8 = .tuple #[.agg #[.int .i64 d0, .int .i64 d1, .int .i64 d2, .int .i64 lv, .int .i64 0, .bool false], .int .i64 0]
  | 9 => g 9 = .tuple #[.agg #[.int .i64 d0, .int .i64 d1, .int .i64 d2, .int .i64 lv, .int .i64 0, .bool false], .int .i64 0]
  | 10 => g 10 = .agg #[.int .i64 d0, .int .i64 d1, .int .i64 d2, .int .i64 lv, .int .i64 0, .bool false]
  | 11 => g 11 = .int .i64 0
  | 12 => ∃ B, g 12 = .pointer (some ⟨B, 0, none⟩) ∧ W.heap[B]? = some (.cells #[.int .i64 0, .int .i64 0, .int .i64 0, .int .i64 0, .int .i64 0, .bool false] 54 (0, 0)) ∧ N ≤ B
  | 13 => ∃ B, g 12 = .pointer (some ⟨B, 0, none⟩) ∧ W.heap[B]? = some (.cells #[.int .i64 d0, .int .i64 d1, .int .i64 d2, .int .i64 lv, .int .i64 0, .bool false] 54 (0, 0)) ∧ N ≤ B
  | _ => True
theorem TrQ.same {N S T : Nat} {d0 d1 d2 lv : Int} {g : Nat → Value} {W W' : World} (i : Nat) (v : Value) (hf : Fr [] W W') : ∀ j, j ≠ i → (j, i) ∉ [(13, 12)] → TrQ N S T d0 d1 d2 lv j g W → TrQ N S T d0 d1 d2 lv j (upG g i v) W' := by
  intro j hj hb h
  unfold TrQ at h ⊢
  split at h
  · rw [upG_ne g v hj]; exact h
  · rw [upG_ne g v hj]; exact h
  · rw [upG_ne g v hj]; exact h
  · obtain ⟨a, c, h1, h2⟩ := h; exact ⟨a, c, by rw [upG_ne g v hj]; exact h1, h2.same hf⟩
  · rw [upG_ne g v hj]; exact h
  · rw [upG_ne g v hj]; exact h
  · rw [upG_ne g v hj]; exact h
  · rw [upG_ne g v hj]; exact h
  · obtain ⟨B, h1, h2, h3⟩ := h; exact ⟨B, by rw [upG_ne g v hj]; exact h1, hf.keep h2 (by simp), h3⟩
  · obtain ⟨B, h1, h2, h3⟩ := h; exact ⟨B, by rw [upG_ne g v (fun e => hb (by rw [← e]; simp))]; exact h1, hf.keep h2 (by simp), h3⟩
  · trivial
theorem TrQ.store {N S T : Nat} {d0 d1 d2 lv : Int} {g : Nat → Value} {W W' : World} (v : Value) : ∀ j, j ≠ 13 → (j, 13) ∉ [(6, 8), (6, 13), (12, 13)] → TrQ N S T d0 d1 d2 lv j g W → TrQ N S T d0 d1 d2 lv j (upG g 13 v) W' := by
  intro j hj hc h
  unfold TrQ at h ⊢
  split at h
  · rw [upG_ne g v hj]; exact h
  · rw [upG_ne g v hj]; exact h
  · rw [upG_ne g v hj]; exact h
  · exact absurd (by simp) hc
  · rw [upG_ne g v hj]; exact h
  · rw [upG_ne g v hj]; exact h
  · rw [upG_ne g v hj]; exact h
  · rw [upG_ne g v hj]; exact h
  · exact absurd (by simp) hc
  · exact absurd rfl hj
  · trivial
-- @@Q
set_option maxRecDepth 1000000 in
set_option maxHeartbeats 4000000 in
theorem trusts_c (q0 q1 q2 q3 lev : Int) (vc : Value) (F : List Int) (k0 k1 k2 k3 k4 k5 k6 k7 at_ level some_ more : Int) (v1 v2 v3 : Value) (n1 n2 n3 : Nat) (is1 is2 is3 : List Int) (za zb zc zd : Int) (w : World) (hR : RndAt w) (hq0 : I64 q0) (hq1 : I64 q1) (hq2 : I64 q2) (hq3 : I64 q3) (hlv : I64 lev) (hF : IntsAt w vc F) (hFi : ∀ z, z ∈ F → I64 z) (hks : ∀ k, k ∈ [k0, k1, k2, k3, k4, k5, k6, k7] → I64 k) (hat : I64 at_) (hlev : I64 level) (hso : I64 some_) (hmo : I64 more) (h1 : NumAt w v1 n1 6 is1) (h2 : NumAt w v2 n2 3 is2) (h3 : NumAt w v3 n3 6 is3) (hza : I64 za) (hzb : I64 zb) (hzc : I64 zc) (hzd : I64 zd) :
    Calls Tryz.prog 3 #[.agg #[.int .i64 q0, .int .i64 q1, .int .i64 q2, .int .i64 q3, .int .i64 lev, vc, .int .i64 k0, .int .i64 k1, .int .i64 k2, .int .i64 k3, .int .i64 k4, .int .i64 k5, .int .i64 k6, .int .i64 k7], .int .i64 at_, .int .i64 level, .int .i64 some_, .int .i64 more, .agg #[v1, v2, v3], .agg #[.int .i64 za, .int .i64 zb, .int .i64 zc, .int .i64 zd]] w fun e w' => e = .returned (.bool true) ∧ Below w.heap.size w w' := by
  obtain ⟨fa, fc, rfl⟩ := hF.val
  obtain ⟨a1, p1, rfl⟩ := h1.sl.val
  obtain ⟨a2, p2, rfl⟩ := h2.sl.val
  obtain ⟨a3, p3, rfl⟩ := h3.sl.val
  have HA := Lib.hid (allocs_at [.cells #[.int .i64 q0, .int .i64 q1, .int .i64 q2, .int .i64 q3, .int .i64 lev, .slice fa F.length fc, .int .i64 k0, .int .i64 k1, .int .i64 k2, .int .i64 k3, .int .i64 k4, .int .i64 k5, .int .i64 k6, .int .i64 k7] 26, .cells #[.slice a1 n1 p1, .slice a2 n2 p2, .slice a3 n3 p3] 30, .cells #[.int .i64 za, .int .i64 zb, .int .i64 zc, .int .i64 zd] 22] w)
  have FA : Hid (Fr [] w _) := Lib.hid (allocs_fr [.cells #[.int .i64 q0, .int .i64 q1, .int .i64 q2, .int .i64 q3, .int .i64 lev, .slice fa F.length fc, .int .i64 k0, .int .i64 k1, .int .i64 k2, .int .i64 k3, .int .i64 k4, .int .i64 k5, .int .i64 k6, .int .i64 k7] 26, .cells #[.slice a1 n1 p1, .slice a2 n2 p2, .slice a3 n3 p3] 30, .cells #[.int .i64 za, .int .i64 zb, .int .i64 zc, .int .i64 zd] 22] w)
  have H1 := Lib.hid h1; have H2 := Lib.hid h2; have H3 := Lib.hid h3
  have HR := Lib.hid hR
  have CM := Lib.hid fun W (hf : Fr [] w W) => made25_c q0 q1 q2 q3 lev (.slice fa F.length fc) F k0 k1 k2 k3 k4 k5 k6 k7 W hq0 hq1 hq2 hq3 hlv (hF.same hf) hFi hks
  have CKN := Lib.hid fun W => knows25_c q0 q1 q2 q3 lev (.slice fa F.length fc) k0 k1 k2 k3 k4 k5 k6 k7 W hks
  have CZ := Lib.hid fun W => cond26_c za zb zc zd W hza hzb hzc hzd
  have CSO := Lib.hid fun W => lawpick26_c some_ 256 W hso (by omega) (by omega)
  have CMO := Lib.hid fun W => lawpick26_c more 256 W hmo (by omega) (by omega)
  have hps := pickI_bound some_ 256 (by omega)
  have hpm := pickI_bound more 256 (by omega)
  generalize pickI some_ 256 = ps at *
  generalize pickI more 256 = pm at *
  obtain ⟨S, rfl⟩ := Int.eq_ofNat_of_zero_le hps.1
  obtain ⟨T, rfl⟩ := Int.eq_ofNat_of_zero_le hpm.1
  have hS : S < 256 := by omega
  have hT : T < 256 := by omega
  have HAT := Lib.hid hat; have HLV := Lib.hid hlev
  have HKN : Hid (∀ n, n ∈ knowsM [k0, k1, k2, k3, k4, k5, k6, k7] → 0 ≤ n ∧ n ≤ 255) := Lib.hid fun n hn => by
    obtain ⟨z, _, rfl⟩ := List.mem_map.1 hn
    have := pickI_bound z 256 (by omega)
    omega
  have HKL : Hid ((knowsM [k0, k1, k2, k3, k4, k5, k6, k7]).length = 8) := Lib.hid rfl
  generalize knowsM [k0, k1, k2, k3, k4, k5, k6, k7] = KN at *
  generalize dialM q0 q1 q2 q3 = D at *
  obtain ⟨d0, d1, d2, d3⟩ := D
  have CA := Lib.hid fun W => all25_c W
  clear hF hFi hq0 hq1 hq2 hq3 hlv hks hat hlev hso hmo h1 h2 h3 hza hzb hzc hzd hR hps hpm
  go_enter Tryz.func3, Tryz.ntmps3
  go_wp2_with fail
  refine (sane26_c _).mono ?_
  rintro e w1 ⟨rfl, f1⟩
  have F1 := Lib.hid (FA.out.trans f1)
  have HB : Hid (∀ W, Fr [] w1 W → _) := Lib.hid fun W hf => And.intro (show W.heap[w.heap.size]? = some (.cells #[.int .i64 q0, .int .i64 q1, .int .i64 q2, .int .i64 q3, .int .i64 lev, .slice fa F.length fc, .int .i64 k0, .int .i64 k1, .int .i64 k2, .int .i64 k3, .int .i64 k4, .int .i64 k5, .int .i64 k6, .int .i64 k7] 26) from hf.keep (f1.keep (HA.out 0 (by simp)) (by simp)) (by simp))
    (And.intro (show W.heap[w.heap.size + 1]? = some (.cells #[.slice a1 n1 p1, .slice a2 n2 p2, .slice a3 n3 p3] 30) from hf.keep (f1.keep (HA.out 1 (by simp)) (by simp)) (by simp)) (show W.heap[w.heap.size + 1 + 1]? = some (.cells #[.int .i64 za, .int .i64 zb, .int .i64 zc, .int .i64 zd] 22) from hf.keep (f1.keep (HA.out 2 (by simp)) (by simp)) (by simp)))
  have B2 := HB.out _ (Fr.refl _ _)
  have c0 := cell_of_blk B2.2.1 0; have c1 := cell_of_blk B2.2.1 1; have c2 := cell_of_blk B2.2.1 2
  have CR := Lib.hid (made_c _ _ _ n1 n2 n3 is1 is2 is3 _ (H1.out.same F1.out) (H2.out.same F1.out) (H3.out.same F1.out))
  clear f1 B2 HA FA
  go_wp2_with fail
  refine CR.out.mono ?_
  rintro e w2 ⟨f2, vc, vr, vf, zs, b, rfl, hmd, hro⟩
  obtain ⟨ac, pc, rfl⟩ := (sl_of_row hro.cls).val
  obtain ⟨ar, pr, rfl⟩ := (sl_of_row hro.rps).val
  obtain ⟨af, pf, rfl⟩ := (sl_of_row hro.fas).val
  have fb := Fr.alloc [] w2 (.cells #[.slice ac zs.length pc, .slice ar b.rps.length pr, .slice af b.fas.length pf] 36)
  have HRO := Lib.hid (hro.same fb)
  have HMD := Lib.hid hmd
  have HRB := Lib.hid (heap_alloc_new w2 (.cells #[.slice ac zs.length pc, .slice ar b.rps.length pr, .slice af b.fas.length pf] 36))
  have F2 := Lib.hid (f2.trans fb)
  clear c0 c1 c2 CR f2 fb hmd hro H1 H2 H3
  go_wp2_with fail
  refine (CA.out _).mono ?_
  rintro e w3 ⟨kv, rfl, hK⟩
  obtain ⟨ka, kc, rfl⟩ := hK.val
  rw [allK_len]
  have HK : Hid (Sl w3 (.slice ka 8 kc) 8 (allK.map Value.string)) := Lib.hid (by have h := sl_of_row hK.row; rw [allK_len] at h; exact h)
  have F3 := Lib.hid (F2.out.trans hK.fr)
  have HK3 := Lib.hid hK.fr
  have B3 := (HB.out _ F3.out).1
  have c0 := cell_of_blk B3 0; have c1 := cell_of_blk B3 1; have c2 := cell_of_blk B3 2; have c3 := cell_of_blk B3 3; have c4 := cell_of_blk B3 4; have c5 := cell_of_blk B3 5; have c6 := cell_of_blk B3 6; have c7 := cell_of_blk B3 7; have c8 := cell_of_blk B3 8; have c9 := cell_of_blk B3 9; have c10 := cell_of_blk B3 10; have c11 := cell_of_blk B3 11; have c12 := cell_of_blk B3 12; have c13 := cell_of_blk B3 13
  clear hK CA B3
  go_wp2_with fail
  refine (CM.out _ (F1.out.trans F3.out)).mono ?_
  rintro e w4 ⟨va, l, rfl, hfm, hY⟩
  obtain ⟨aa, pa, rfl⟩ := hY.at_.val
  have fb := Fr.alloc [] w4 (.cells #[.int .i64 d0, .int .i64 d1, .int .i64 d2, .int .i64 d3, .slice aa l.length pa] 44)
  have HO := Lib.hid (AtOk.same ⟨hfm, hY.row⟩ fb)
  have F4 := Lib.hid ((F3.out.trans hY.fr).trans fb)
  have HK4 := Lib.hid ((HK3.out.trans hY.fr).trans fb)
  have HKs := Lib.hid (HK.out.same (hY.fr.trans fb))
  have BH := heap_alloc_new w4 (.cells #[.int .i64 d0, .int .i64 d1, .int .i64 d2, .int .i64 d3, .slice aa l.length pa] 44)
  have HBH := Lib.hid BH
  have e0 := cell_of_blk BH 0; have e1 := cell_of_blk BH 1; have e2 := cell_of_blk BH 2; have e3 := cell_of_blk BH 3; have e4 := cell_of_blk BH 4
  have CSE := Lib.hid (sealed25_c ⟨d0, d1, d2, d3⟩ (.slice aa l.length pa) l at_ level _ (srcAt_of_row HO.out.row) hfm HAT.out HLV.out)
  clear c0 c1 c2 c3 c4 c5 c6 c7 c8 c9 c10 c11 c12 c13 hfm hY fb BH CM HK HK3
  go_wp2_with fail
  refine CSE.out.mono ?_
  rintro e w5 ⟨vb, l2, kk, rfl, hfm, hY⟩
  obtain ⟨ab, pb, rfl⟩ := hY.at_.val
  clear e0 e1 e2 e3 e4
  have fx := hY.fr
  have fb := Fr.alloc [] w5 (.cells #[.int .i64 d0, .int .i64 d1, .int .i64 d2, .int .i64 d3, .slice ab l2.length pb] 44)
  have fc2 := Fr.alloc [] (w5.alloc (.cells #[.int .i64 d0, .int .i64 d1, .int .i64 d2, .int .i64 d3, .slice ab l2.length pb] 44)) (.cells #[.int .i64 d0, .int .i64 d1, .int .i64 d2, .int .i64 d3, .slice aa l.length pa, .int .i64 d0, .int .i64 d1, .int .i64 d2, .int .i64 d3, .slice ab l2.length pb] 44)
  have g5 := fx.trans (fb.trans fc2)
  have F5 := Lib.hid (F4.out.trans g5)
  have HK5 := Lib.hid (HKs.out.same g5)
  have HRL := Lib.hid (HK4.out.trans g5)
  have HO1 := Lib.hid (HO.out.same g5)
  have HO2 := Lib.hid (AtOk.same (W' := (w5.alloc (.cells #[.int .i64 d0, .int .i64 d1, .int .i64 d2, .int .i64 d3, .slice ab l2.length pb] 44)).alloc (.cells #[.int .i64 d0, .int .i64 d1, .int .i64 d2, .int .i64 d3, .slice aa l.length pa, .int .i64 d0, .int .i64 d1, .int .i64 d2, .int .i64 d3, .slice ab l2.length pb] 44)) ⟨hfm, hY.row⟩ (fb.trans fc2))
  have L10 := heap_alloc_new (w5.alloc (.cells #[.int .i64 d0, .int .i64 d1, .int .i64 d2, .int .i64 d3, .slice ab l2.length pb] 44)) (.cells #[.int .i64 d0, .int .i64 d1, .int .i64 d2, .int .i64 d3, .slice aa l.length pa, .int .i64 d0, .int .i64 d1, .int .i64 d2, .int .i64 d3, .slice ab l2.length pb] 44)
  simp only [World.size_alloc] at L10
  have h0 := fx.keep HBH.out (by simp)
  have e0 := fb.cel (cell_of_blk h0 0) (by simp); have e1 := fb.cel (cell_of_blk h0 1) (by simp); have e2 := fb.cel (cell_of_blk h0 2) (by simp); have e3 := fb.cel (cell_of_blk h0 3) (by simp); have e4 := fb.cel (cell_of_blk h0 4) (by simp)
  have x0 := fx.cel (cell_of_blk HBH.out 0) (by simp)
  have HL10 := Lib.hid L10
  clear h0 x0 fx fb fc2 g5 L10 hfm hY HO CSE HKs
  have HE0 := Lib.hid e0; have HE1 := Lib.hid e1; have HE2 := Lib.hid e2; have HE3 := Lib.hid e3; have HE4 := Lib.hid e4
  go_wp2_with fail
  -- @@B
  generalize ((w5.alloc (.cells #[.int .i64 d0, .int .i64 d1, .int .i64 d2, .int .i64 d3, .slice ab l2.length pb] 44)).alloc (.cells #[.int .i64 d0, .int .i64 d1, .int .i64 d2, .int .i64 d3, .slice aa l.length pa, .int .i64 d0, .int .i64 d1, .int .i64 d2, .int .i64 d3, .slice ab l2.length pb] 44)) = WL at *
  generalize w5.heap.size + 1 = sb at *
  have HOR := Lib.hid (i64_or_nat S T hS hT)
  have hST : S ||| T < 256 := Nat.or_lt_two_pow (n := 8) (by omega) (by omega)
  have HAT2 : Hid (∀ i, i < 2 → ∃ (a : Option Addr) (p : Nat) (m : List Hd), AtOk WL ⟨d0, d1, d2, d3⟩ (.slice a m.length p) m ∧ WL.cell? ⟨sb, i * 5, none⟩ = some (.int .i64 d0) ∧ WL.cell? ⟨sb, i * 5 + 1, none⟩ = some (.int .i64 d1) ∧ WL.cell? ⟨sb, i * 5 + 2, none⟩ = some (.int .i64 d2) ∧ WL.cell? ⟨sb, i * 5 + 3, none⟩ = some (.int .i64 d3) ∧ WL.cell? ⟨sb, i * 5 + 4, none⟩ = some (.slice a m.length p)) := Lib.hid fun i hi => by
    have : i = 0 ∨ i = 1 := by omega
    rcases this with rfl | rfl
    · exact ⟨aa, pa, l, HO1.out, cell_of_blk HL10.out 0, cell_of_blk HL10.out 1, cell_of_blk HL10.out 2, cell_of_blk HL10.out 3, cell_of_blk HL10.out 4⟩
    · exact ⟨ab, pb, l2, HO2.out, cell_of_blk HL10.out 5, cell_of_blk HL10.out 6, cell_of_blk HL10.out 7, cell_of_blk HL10.out 8, cell_of_blk HL10.out 9⟩
  clear e0 e1 e2 e3 e4 HE0 HE1 HE2 HE3 HE4
  have HSL := Lib.hid (And.intro hS (And.intro hT hST))
  go_loopw [58] (fun iv wr => ∃ i : Nat, iv = .int .i64 i ∧ i ≤ 2 ∧ Hid (Fr [] WL wr)) (fun iv _ => 2 - (RowKit.intOf iv).toNat)
  case atStart => exact ⟨0, rfl, by omega, Lib.hid (Fr.refl _ _)⟩
  case round =>
    obtain ⟨i, rfl, hi, HW⟩ := hrel
    by_cases hlt : i < 2
    · have hfr := HW.out
      obtain ⟨am, pm, m, hok, t0, t1, t2, t3, t4⟩ := HAT2.out i hlt
      have t0 := hfr.cel t0 (by simp); have t1 := hfr.cel t1 (by simp); have t2 := hfr.cel t2 (by simp); have t3 := hfr.cel t3 (by simp); have t4 := hfr.cel t4 (by simp)
      have fb := Fr.alloc [] wr (.cells #[.int .i64 d0, .int .i64 d1, .int .i64 d2, .int .i64 d3, .slice am m.length pm] 44)
      have BX := heap_alloc_new wr (.cells #[.int .i64 d0, .int .i64 d1, .int .i64 d2, .int .i64 d3, .slice am m.length pm] 44)
      have hwa := hfr.trans fb
      have HWA := Lib.hid hwa
      have HOA := Lib.hid (hok.same hwa)
      have HKA := Lib.hid (HK5.out.same hwa)
      have HRA := Lib.hid (HR.out.same (((F1.out.trans F5.out)).trans hwa) (by simp))
      have B3 := (HB.out _ (F5.out.trans hwa)).1
      have c0 := cell_of_blk B3 0; have c1 := cell_of_blk B3 1; have c2 := cell_of_blk B3 2; have c3 := cell_of_blk B3 3; have c4 := cell_of_blk B3 4; have c5 := cell_of_blk B3 5; have c6 := cell_of_blk B3 6; have c7 := cell_of_blk B3 7; have c8 := cell_of_blk B3 8; have c9 := cell_of_blk B3 9; have c10 := cell_of_blk B3 10; have c11 := cell_of_blk B3 11; have c12 := cell_of_blk B3 12; have c13 := cell_of_blk B3 13
      have e0 := cell_of_blk BX 0; have e1 := cell_of_blk BX 1; have e2 := cell_of_blk BX 2; have e3 := cell_of_blk BX 3; have e4 := cell_of_blk BX 4
      clear fb BX B3 hwa hok hfr
      go_wp2_with fail
      generalize hbA : wr.heap.size = bA at *
      generalize wr.alloc (.cells #[.int .i64 d0, .int .i64 d1, .int .i64 d2, .int .i64 d3, .slice am m.length pm] 44) = WA at *
      clear t0 t1 t2 t3 t4
      refine reg_mix (Fr [] WA) [0, 1, 3, 2, 4, 5, 6, 7, 8, 9] (by kernel_rfl) (by kernel_rfl) (by kernel_rfl) rfl (Fr.drew _ _) ?_
      have FC : Fr [] WA WA.drew := Fr.drew _ _
      generalize WA.drew = WC at FC ⊢
      iterate 3 (refine mix_take1 (v := ?_) rfl rfl rfl rfl (fun w hS => ?_) ?_; rotate_left; (focus (have s0 := hS.cel c0 (by simp); have s1 := hS.cel c1 (by simp); have s2 := hS.cel c2 (by simp); have s3 := hS.cel c3 (by simp); have s4 := hS.cel c4 (by simp); have s5 := hS.cel c5 (by simp); have s6 := hS.cel c6 (by simp); have s7 := hS.cel c7 (by simp); have s8 := hS.cel c8 (by simp); have s9 := hS.cel c9 (by simp); have s10 := hS.cel c10 (by simp); have s11 := hS.cel c11 (by simp); have s12 := hS.cel c12 (by simp); have s13 := hS.cel c13 (by simp); have u0 := hS.cel e0 (by simp); have u1 := hS.cel e1 (by simp); have u2 := hS.cel e2 (by simp); have u3 := hS.cel e3 (by simp); have u4 := hS.cel e4 (by simp); clear hS; go_simp; rfl)); simp only [List.setIfInBounds_toArray, List.set_cons_succ, List.set_cons_zero])
      refine mix_do rfl rfl rfl (fun K hK => ?_)
      go_simp
      refine (CKN.out _).mono ?_
      rintro e w6 ⟨nv, rfl, hN⟩
      obtain ⟨na, nc, rfl⟩ := hN.val
      have FC := FC.trans hN.fr
      have CB := Lib.hid (blame_c (.slice ka 8 kc) allK (.slice na KN.length nc) KN ⟨d0, d1, d2, d3⟩ (.slice am m.length pm) m w6 (HRA.out.same FC (by simp)) (by rw [allK_len]; exact HKA.out.same FC) allK_len (fun k hk => allK_size hk) (sl_of_row hN.row) HKL.out HKN.out (HOA.out.same FC).row HOA.out.fm)
      clear hN
      refine hK _ _ FC ?_
      clear hK K
      try simp only [Act.put, List.setIfInBounds_toArray, List.set_cons_succ, List.set_cons_zero]
      refine mix_do rfl rfl rfl (fun K hK => ?_)
      go_simp
      refine CB.out.mono ?_
      rintro e w7 ⟨bk, rfl, f7⟩
      have FC := FC.trans f7
      clear f7 CB
      refine hK _ _ FC ?_
      clear hK K
      try simp only [Act.put, List.setIfInBounds_toArray, List.set_cons_succ, List.set_cons_zero]
      iterate 5 (refine mix_take1 (v := ?_) rfl rfl rfl rfl (fun w hS => ?_) ?_; rotate_left; (focus (clear hS; go_simp; rfl)); simp only [List.setIfInBounds_toArray, List.set_cons_succ, List.set_cons_zero])
      refine mix_end ?_
      have HF7 := Lib.hid FC
      have e0 := FC.cel e0 (by simp); have e1 := FC.cel e1 (by simp); have e2 := FC.cel e2 (by simp); have e3 := FC.cel e3 (by simp); have e4 := FC.cel e4 (by simp)
      have HKW := Lib.hid (HKA.out.same FC); have HRW := Lib.hid (HRA.out.same FC (by simp)); have HOW := Lib.hid (HOA.out.same FC)
      clear FC c0 c1 c2 c3 c4 c5 c6 c7 c8 c9 c10 c11 c12 c13
      obtain ⟨lc, hlc⟩ : ∃ lc, lc = (chkM (knownM allK S) ⟨⟨d0, d1, d2, d3⟩, m⟩).1 := ⟨_, rfl⟩
      obtain ⟨ld, hld⟩ : ∃ ld, ld = (chkM (knownM allK (S ||| T)) ⟨⟨d0, d1, d2, d3⟩, m⟩).1 := ⟨_, rfl⟩
      have hL1 := chkM_first HOW.out.fm (knownM allK S)
      have hL2 := chkM_first HOW.out.fm (knownM allK (S ||| T))
      have hL3 := chkM_mono HOW.out.fm allK S T
      rw [← hlc] at hL1 hL3
      rw [← hld] at hL2 hL3
      have HLC := Lib.hid hlc.symm; have HLD := Lib.hid hld.symm
      clear hlc hld
      simp only at hL1 hL2
      go_wp2_with fail
      -- @@C
      refine reg_invG (C := [(3, 5), (3, 10), (9, 10)]) (B := [(10, 9)]) (Fr [] w7) 11 [0, 1, 4] [(2, []), (3, [2]), (5, [3]), (6, [5]), (7, [6]), (8, [6]), (9, []), (10, [7, 9])] (by kernel_rfl) (by kernel_rfl) (by kernel_rfl) (by kernel_rfl) (by kernel_rfl) ?_
      have FC : Fr [] w7 w7.drew := Fr.drew _ _
      have HNW : Hid (∀ w8 : World, Fr [] w7 w8 → w7.heap.size ≤ w8.heap.size) := Lib.hid fun w8 h => h.size
      iterate 3 (refine tk_take (v := ?_) rfl rfl rfl FC (fun w hS => ?_) ?_; rotate_left; (focus (have u0 := hS.cel e0 (by simp); have u1 := hS.cel e1 (by simp); have u2 := hS.cel e2 (by simp); have u3 := hS.cel e3 (by simp); have u4 := hS.cel e4 (by simp); clear hS; go_simp; rfl)); simp only [List.setIfInBounds_toArray, List.set_cons_succ, List.set_cons_zero])
      refine invG_start [(2, 73), (3, 74), (5, 76), (6, 70), (7, 77), (8, 78), (9, 25)] (TrP w7.heap.size S T d0 d1 d2 lc) (by decide) FC ⟨fun g w8 hS hD => ?_, fun g w8 hS hD => ?_, fun g w8 hS hD => ?_, fun g w8 hS hD => ?_, fun g w8 hS hD => ?_, fun g w8 hS hD => ?_, fun g w8 hS hD => ?_, fun g w8 hS hD => ?_, trivial⟩ (fun g w8 hS hD => ?_)
      · have h' := TrP.same (N := w7.heap.size) (S := S) (T := T) (d0 := d0) (d1 := d1) (d2 := d2) (lv := lc) (g := g) 2 (.int .i64 S) (Fr.refl [] w8)
        refine invG_op rfl rfl (fun K hK => ?_)
        simp only [putG, putT, List.setIfInBounds_toArray, List.set_cons_succ, List.set_cons_zero] at hK ⊢
        go_simp
        refine (CSO.out _).mono ?_
        rintro e V2 ⟨rfl, rfl⟩
        exact hK _ _ hS rfl (fun j hj _ hb h => h' j hj (by simp) h)
      · have xp : g 2 = .int .i64 S := hD 2 (by simp)
        refine invG_op rfl rfl (fun K hK => ?_)
        simp only [putG, putT, List.setIfInBounds_toArray, List.set_cons_succ, List.set_cons_zero] at hK ⊢
        simp only [upG, Nat.reduceEqDiff, if_false, if_true] at hK
        rw [xp] at hK ⊢
        go_simp
        refine (known25_c (.slice ka 8 kc) allK S w8 (by rw [allK_len]; exact HKW.out.same hS) (by rw [allK_len]; omega) (by have := HSL.out; omega)).mono ?_
        rintro e V2 ⟨v2, rfl, hk2⟩
        have hsl := sl_of_row hk2.row
        obtain ⟨aK, cK, rfl⟩ := hsl.val
        have hl8 : (knownM allK S).length = 8 := by rw [knownM_len, allK_len]
        rw [hl8] at hsl ⊢
        have h' := TrP.same (N := w7.heap.size) (S := S) (T := T) (d0 := d0) (d1 := d1) (d2 := d2) (lv := lc) (g := g) 3 (.slice aK 8 cK) hk2.fr
        exact hK _ _ (hS.trans hk2.fr) ⟨_, _, rfl, hsl⟩ (fun j hj _ hb h => h' j hj (by simp) h)
      · obtain ⟨aK, cK, xk, hsl⟩ := hD 3 (by simp)
        refine invG_op rfl rfl (fun K hK => ?_)
        simp only [putG, putT, List.setIfInBounds_toArray, List.set_cons_succ, List.set_cons_zero] at hK ⊢
        simp only [upG, Nat.reduceEqDiff, if_false, if_true] at hK
        rw [xk] at hK ⊢
        go_simp
        have ht := take_c (.slice aK 8 cK) S ⟨d0, d1, d2, d3⟩ (.slice am m.length pm) m w8 (HRW.out.same hS (by simp)) hsl (HOW.out.same hS)
        simp only [HLC.out] at ht
        refine ht.mono ?_
        rintro e V2 ⟨rfl, f2⟩
        have h' := TrP.same (N := w7.heap.size) (S := S) (T := T) (d0 := d0) (d1 := d1) (d2 := d2) (lv := lc) (g := g) 5 (.tuple #[.agg #[.int .i64 d0, .int .i64 d1, .int .i64 d2, .int .i64 lc, .int .i64 0, .bool false], .int .i64 0]) f2
        exact hK _ _ (hS.trans f2) rfl (fun j hj _ hb h => h' j hj (by simp) h)
      · have xt : g 5 = .tuple #[.agg #[.int .i64 d0, .int .i64 d1, .int .i64 d2, .int .i64 lc, .int .i64 0, .bool false], .int .i64 0] := hD 5 (by simp)
        have h' := TrP.same (N := w7.heap.size) (S := S) (T := T) (d0 := d0) (d1 := d1) (d2 := d2) (lv := lc) (g := g) 6 (.tuple #[.agg #[.int .i64 d0, .int .i64 d1, .int .i64 d2, .int .i64 lc, .int .i64 0, .bool false], .int .i64 0]) (Fr.refl [] w8)
        refine invG_op rfl rfl (fun K hK => ?_)
        simp only [putG, putT, List.setIfInBounds_toArray, List.set_cons_succ, List.set_cons_zero] at hK ⊢
        simp only [upG, Nat.reduceEqDiff, if_false, if_true] at hK
        rw [xt] at hK ⊢
        go_simp
        exact hK _ _ hS rfl (fun j hj _ hb h => h' j hj (by simp) h)
      · have xt : g 6 = .tuple #[.agg #[.int .i64 d0, .int .i64 d1, .int .i64 d2, .int .i64 lc, .int .i64 0, .bool false], .int .i64 0] := hD 6 (by simp)
        have h' := TrP.same (N := w7.heap.size) (S := S) (T := T) (d0 := d0) (d1 := d1) (d2 := d2) (lv := lc) (g := g) 7 (.agg #[.int .i64 d0, .int .i64 d1, .int .i64 d2, .int .i64 lc, .int .i64 0, .bool false]) (Fr.refl [] w8)
        refine invG_op rfl rfl (fun K hK => ?_)
        simp only [putG, putT, List.setIfInBounds_toArray, List.set_cons_succ, List.set_cons_zero] at hK ⊢
        simp only [upG, Nat.reduceEqDiff, if_false, if_true] at hK
        rw [xt] at hK ⊢
        go_simp
        exact hK _ _ hS rfl (fun j hj _ hb h => h' j hj (by simp) h)
      · have xt : g 6 = .tuple #[.agg #[.int .i64 d0, .int .i64 d1, .int .i64 d2, .int .i64 lc, .int .i64 0, .bool false], .int .i64 0] := hD 6 (by simp)
        have h' := TrP.same (N := w7.heap.size) (S := S) (T := T) (d0 := d0) (d1 := d1) (d2 := d2) (lv := lc) (g := g) 8 (.int .i64 0) (Fr.refl [] w8)
        refine invG_op rfl rfl (fun K hK => ?_)
        simp only [putG, putT, List.setIfInBounds_toArray, List.set_cons_succ, List.set_cons_zero] at hK ⊢
        simp only [upG, Nat.reduceEqDiff, if_false, if_true] at hK
        rw [xt] at hK ⊢
        go_simp
        exact hK _ _ hS rfl (fun j hj _ hb h => h' j hj (by simp) h)
      · have f2 := Fr.alloc [] w8 (.cells #[.int .i64 0, .int .i64 0, .int .i64 0, .int .i64 0, .int .i64 0, .bool false] 54)
        have h' := TrP.same (N := w7.heap.size) (S := S) (T := T) (d0 := d0) (d1 := d1) (d2 := d2) (lv := lc) (g := g) 9 (.pointer (some ⟨w8.heap.size, 0, none⟩)) f2
        refine invG_op rfl rfl (fun K hK => ?_)
        simp only [putG, putT, List.setIfInBounds_toArray, List.set_cons_succ, List.set_cons_zero] at hK ⊢
        go_simp
        exact hK _ _ (hS.trans f2) ⟨_, rfl, heap_alloc_new _ _, HNW.out _ hS⟩ (fun j hj _ hb h => h' j hj hb h)
      · have xv : g 7 = .agg #[.int .i64 d0, .int .i64 d1, .int .i64 d2, .int .i64 lc, .int .i64 0, .bool false] := hD 7 (by simp)
        obtain ⟨B, xB, hB, nB⟩ := hD 9 (by simp)
        refine invG_op (o := ⟨none, _, _, _, _, _⟩) rfl rfl (fun K hK => ?_)
        simp only [putG, putT, List.setIfInBounds_toArray, List.set_cons_succ, List.set_cons_zero] at hK ⊢
        simp only [upG, Nat.reduceEqDiff, if_false] at hK
        rw [xv, xB] at hK ⊢
        have t0 := cell_of_blk hB 0; have t1 := cell_of_blk hB 1; have t2 := cell_of_blk hB 2; have t3 := cell_of_blk hB 3; have t4 := cell_of_blk hB 4; have t5 := cell_of_blk hB 5
        have r0 := free_of_blk hB 0; have r1 := free_of_blk hB 1; have r2 := free_of_blk hB 2; have r3 := free_of_blk hB 3; have r4 := free_of_blk hB 4; have r5 := free_of_blk hB 5
        go_simp
        try go_upon
        try go_simp
        obtain ⟨KS, FS⟩ := set6 hB (.int .i64 d0) (.int .i64 d1) (.int .i64 d2) (.int .i64 lc) (.int .i64 0) (.bool false)
        exact hK undef _ (hS.step FS (fun i hi => .inr (by simp at hi; omega))) ⟨B, by rw [upG_ne g undef (by decide)]; exact xB, KS, nB⟩ (fun j hj hc _ h => TrP.store undef j hj hc h)
      obtain ⟨bC, xB, hB, nB⟩ := hD (10, [7, 9]) (by simp) (by simp)
      have xe : g 8 = .int .i64 0 := hD (8, [6]) (by simp) (by simp)
      refine inv_fin rfl rfl (fun K hK => ?_)
      simp only [putG, putT, List.setIfInBounds_toArray, List.set_cons_succ, List.set_cons_zero] at hK ⊢
      rw [xB, xe]
      go_simp
      refine hK _ _ ?_
      clear hK K hD FC
      refine noPanic_normal ?_
      generalize g 2 = uTrP2 at *
      generalize g 3 = uTrP3 at *
      generalize g 5 = uTrP5 at *
      generalize g 6 = uTrP6 at *
      generalize g 7 = uTrP7 at *
      clear xB xe
      have HBC := Lib.hid hB
      have e0 := hS.cel e0 (by simp); have e1 := hS.cel e1 (by simp); have e2 := hS.cel e2 (by simp); have e3 := hS.cel e3 (by simp); have e4 := hS.cel e4 (by simp)
      have HKW := Lib.hid (HKW.out.same hS); have HRW := Lib.hid (HRW.out.same hS (by simp)); have HOW := Lib.hid (HOW.out.same hS)
      have HF8 := Lib.hid (HF7.out.trans hS)
      clear hB hS nB HNW HF7
      go_wp2_with fail
      refine reg_invG (C := [(6, 8), (6, 13), (12, 13)]) (B := [(13, 12)]) (Fr [] w8) 14 [0, 1, 3, 7] [(2, []), (4, []), (5, [2, 4]), (6, [5]), (8, [6]), (9, [8]), (10, [9]), (11, [9]), (12, []), (13, [10, 12])] (by kernel_rfl) (by kernel_rfl) (by kernel_rfl) (by kernel_rfl) (by kernel_rfl) ?_
      have FC : Fr [] w8 w8.drew := Fr.drew _ _
      have HNW : Hid (∀ w9 : World, Fr [] w8 w9 → w8.heap.size ≤ w9.heap.size) := Lib.hid fun w9 h => h.size
      iterate 4 (refine tk_take (v := ?_) rfl rfl rfl FC (fun w hS => ?_) ?_; rotate_left; (focus (have u0 := hS.cel e0 (by simp); have u1 := hS.cel e1 (by simp); have u2 := hS.cel e2 (by simp); have u3 := hS.cel e3 (by simp); have u4 := hS.cel e4 (by simp); clear hS; go_simp; rfl)); simp only [List.setIfInBounds_toArray, List.set_cons_succ, List.set_cons_zero])
      refine invG_start [(2, 82), (4, 84), (5, 85), (6, 86), (8, 88), (9, 79), (10, 89), (11, 90), (12, 27)] (TrQ w8.heap.size S T d0 d1 d2 ld) (by decide) FC ⟨fun g w9 hS hD => ?_, fun g w9 hS hD => ?_, fun g w9 hS hD => ?_, fun g w9 hS hD => ?_, fun g w9 hS hD => ?_, fun g w9 hS hD => ?_, fun g w9 hS hD => ?_, fun g w9 hS hD => ?_, fun g w9 hS hD => ?_, fun g w9 hS hD => ?_, trivial⟩ (fun g w9 hS hD => ?_)
      · have h' := TrQ.same (N := w8.heap.size) (S := S) (T := T) (d0 := d0) (d1 := d1) (d2 := d2) (lv := ld) (g := g) 2 (.int .i64 S) (Fr.refl [] w9)
        refine invG_op rfl rfl (fun K hK => ?_)
        simp only [putG, putT, List.setIfInBounds_toArray, List.set_cons_succ, List.set_cons_zero] at hK ⊢
        go_simp
        refine (CSO.out _).mono ?_
        rintro e V2 ⟨rfl, rfl⟩
        exact hK _ _ hS rfl (fun j hj _ hb h => h' j hj (by simp) h)
      · have h' := TrQ.same (N := w8.heap.size) (S := S) (T := T) (d0 := d0) (d1 := d1) (d2 := d2) (lv := ld) (g := g) 4 (.int .i64 T) (Fr.refl [] w9)
        refine invG_op rfl rfl (fun K hK => ?_)
        simp only [putG, putT, List.setIfInBounds_toArray, List.set_cons_succ, List.set_cons_zero] at hK ⊢
        go_simp
        refine (CMO.out _).mono ?_
        rintro e V2 ⟨rfl, rfl⟩
        exact hK _ _ hS rfl (fun j hj _ hb h => h' j hj (by simp) h)
      · have x2 : g 2 = .int .i64 S := hD 2 (by simp)
        have x4 : g 4 = .int .i64 T := hD 4 (by simp)
        have h' := TrQ.same (N := w8.heap.size) (S := S) (T := T) (d0 := d0) (d1 := d1) (d2 := d2) (lv := ld) (g := g) 5 (.int .i64 ((S ||| T : Nat) : Int)) (Fr.refl [] w9)
        refine invG_op rfl rfl (fun K hK => ?_)
        simp only [putG, putT, List.setIfInBounds_toArray, List.set_cons_succ, List.set_cons_zero] at hK ⊢
        simp only [upG, Nat.reduceEqDiff, if_false, if_true] at hK
        rw [x2, x4] at hK ⊢
        go_simp
        rw [HOR.out]
        exact hK _ _ hS rfl (fun j hj _ hb h => h' j hj (by simp) h)
      · have xp : g 5 = .int .i64 ((S ||| T : Nat) : Int) := hD 5 (by simp)
        refine invG_op rfl rfl (fun K hK => ?_)
        simp only [putG, putT, List.setIfInBounds_toArray, List.set_cons_succ, List.set_cons_zero] at hK ⊢
        simp only [upG, Nat.reduceEqDiff, if_false, if_true] at hK
        rw [xp] at hK ⊢
        go_simp
        refine (known25_c (.slice ka 8 kc) allK (S ||| T) w9 (by rw [allK_len]; exact HKW.out.same hS) (by rw [allK_len]; omega) (by have := HSL.out; omega)).mono ?_
        rintro e V2 ⟨v2, rfl, hk2⟩
        have hsl := sl_of_row hk2.row
        obtain ⟨aK, cK, rfl⟩ := hsl.val
        have hl8 : (knownM allK (S ||| T)).length = 8 := by rw [knownM_len, allK_len]
        rw [hl8] at hsl ⊢
        have h' := TrQ.same (N := w8.heap.size) (S := S) (T := T) (d0 := d0) (d1 := d1) (d2 := d2) (lv := ld) (g := g) 6 (.slice aK 8 cK) hk2.fr
        exact hK _ _ (hS.trans hk2.fr) ⟨_, _, rfl, hsl⟩ (fun j hj _ hb h => h' j hj (by simp) h)
      · obtain ⟨aK, cK, xk, hsl⟩ := hD 6 (by simp)
        refine invG_op rfl rfl (fun K hK => ?_)
        simp only [putG, putT, List.setIfInBounds_toArray, List.set_cons_succ, List.set_cons_zero] at hK ⊢
        simp only [upG, Nat.reduceEqDiff, if_false, if_true] at hK
        rw [xk] at hK ⊢
        go_simp
        have ht := take_c (.slice aK 8 cK) (S ||| T) ⟨d0, d1, d2, d3⟩ (.slice am m.length pm) m w9 (HRW.out.same hS (by simp)) hsl (HOW.out.same hS)
        simp only [HLD.out] at ht
        refine ht.mono ?_
        rintro e V2 ⟨rfl, f2⟩
        have h' := TrQ.same (N := w8.heap.size) (S := S) (T := T) (d0 := d0) (d1 := d1) (d2 := d2) (lv := ld) (g := g) 8 (.tuple #[.agg #[.int .i64 d0, .int .i64 d1, .int .i64 d2, .int .i64 ld, .int .i64 0, .bool false], .int .i64 0]) f2
        exact hK _ _ (hS.trans f2) rfl (fun j hj _ hb h => h' j hj (by simp) h)
      · have xt : g 8 = .tuple #[.agg #[.int .i64 d0, .int .i64 d1, .int .i64 d2, .int .i64 ld, .int .i64 0, .bool false], .int .i64 0] := hD 8 (by simp)
        have h' := TrQ.same (N := w8.heap.size) (S := S) (T := T) (d0 := d0) (d1 := d1) (d2 := d2) (lv := ld) (g := g) 9 (.tuple #[.agg #[.int .i64 d0, .int .i64 d1, .int .i64 d2, .int .i64 ld, .int .i64 0, .bool false], .int .i64 0]) (Fr.refl [] w9)
        refine invG_op rfl rfl (fun K hK => ?_)
        simp only [putG, putT, List.setIfInBounds_toArray, List.set_cons_succ, List.set_cons_zero] at hK ⊢
        simp only [upG, Nat.reduceEqDiff, if_false, if_true] at hK
        rw [xt] at hK ⊢
        go_simp
        exact hK _ _ hS rfl (fun j hj _ hb h => h' j hj (by simp) h)
      · have xt : g 9 = .tuple #[.agg #[.int .i64 d0, .int .i64 d1, .int .i64 d2, .int .i64 ld, .int .i64 0, .bool false], .int .i64 0] := hD 9 (by simp)
        have h' := TrQ.same (N := w8.heap.size) (S := S) (T := T) (d0 := d0) (d1 := d1) (d2 := d2) (lv := ld) (g := g) 10 (.agg #[.int .i64 d0, .int .i64 d1, .int .i64 d2, .int .i64 ld, .int .i64 0, .bool false]) (Fr.refl [] w9)
        refine invG_op rfl rfl (fun K hK => ?_)
        simp only [putG, putT, List.setIfInBounds_toArray, List.set_cons_succ, List.set_cons_zero] at hK ⊢
        simp only [upG, Nat.reduceEqDiff, if_false, if_true] at hK
        rw [xt] at hK ⊢
        go_simp
        exact hK _ _ hS rfl (fun j hj _ hb h => h' j hj (by simp) h)
      · have xt : g 9 = .tuple #[.agg #[.int .i64 d0, .int .i64 d1, .int .i64 d2, .int .i64 ld, .int .i64 0, .bool false], .int .i64 0] := hD 9 (by simp)
        have h' := TrQ.same (N := w8.heap.size) (S := S) (T := T) (d0 := d0) (d1 := d1) (d2 := d2) (lv := ld) (g := g) 11 (.int .i64 0) (Fr.refl [] w9)
        refine invG_op rfl rfl (fun K hK => ?_)
        simp only [putG, putT, List.setIfInBounds_toArray, List.set_cons_succ, List.set_cons_zero] at hK ⊢
        simp only [upG, Nat.reduceEqDiff, if_false, if_true] at hK
        rw [xt] at hK ⊢
        go_simp
        exact hK _ _ hS rfl (fun j hj _ hb h => h' j hj (by simp) h)
      · have f2 := Fr.alloc [] w9 (.cells #[.int .i64 0, .int .i64 0, .int .i64 0, .int .i64 0, .int .i64 0, .bool false] 54)
        have h' := TrQ.same (N := w8.heap.size) (S := S) (T := T) (d0 := d0) (d1 := d1) (d2 := d2) (lv := ld) (g := g) 12 (.pointer (some ⟨w9.heap.size, 0, none⟩)) f2
        refine invG_op rfl rfl (fun K hK => ?_)
        simp only [putG, putT, List.setIfInBounds_toArray, List.set_cons_succ, List.set_cons_zero] at hK ⊢
        go_simp
        exact hK _ _ (hS.trans f2) ⟨_, rfl, heap_alloc_new _ _, HNW.out _ hS⟩ (fun j hj _ hb h => h' j hj hb h)
      · have xv : g 10 = .agg #[.int .i64 d0, .int .i64 d1, .int .i64 d2, .int .i64 ld, .int .i64 0, .bool false] := hD 10 (by simp)
        obtain ⟨B, xB, hB, nB⟩ := hD 12 (by simp)
        refine invG_op (o := ⟨none, _, _, _, _, _⟩) rfl rfl (fun K hK => ?_)
        simp only [putG, putT, List.setIfInBounds_toArray, List.set_cons_succ, List.set_cons_zero] at hK ⊢
        simp only [upG, Nat.reduceEqDiff, if_false] at hK
        rw [xv, xB] at hK ⊢
        have t0 := cell_of_blk hB 0; have t1 := cell_of_blk hB 1; have t2 := cell_of_blk hB 2; have t3 := cell_of_blk hB 3; have t4 := cell_of_blk hB 4; have t5 := cell_of_blk hB 5
        have r0 := free_of_blk hB 0; have r1 := free_of_blk hB 1; have r2 := free_of_blk hB 2; have r3 := free_of_blk hB 3; have r4 := free_of_blk hB 4; have r5 := free_of_blk hB 5
        go_simp
        try go_upon
        try go_simp
        obtain ⟨KS, FS⟩ := set6 hB (.int .i64 d0) (.int .i64 d1) (.int .i64 d2) (.int .i64 ld) (.int .i64 0) (.bool false)
        exact hK undef _ (hS.step FS (fun i hi => .inr (by simp at hi; omega))) ⟨B, by rw [upG_ne g undef (by decide)]; exact xB, KS, nB⟩ (fun j hj hc _ h => TrQ.store undef j hj hc h)
      obtain ⟨bD, xB, hB, nB⟩ := hD (13, [10, 12]) (by simp) (by simp)
      have xe : g 11 = .int .i64 0 := hD (11, [9]) (by simp) (by simp)
      refine inv_fin rfl rfl (fun K hK => ?_)
      simp only [putG, putT, List.setIfInBounds_toArray, List.set_cons_succ, List.set_cons_zero] at hK ⊢
      rw [xB, xe]
      go_simp
      refine hK _ _ ?_
      clear hK K hD FC
      refine noPanic_normal ?_
      generalize g 2 = uTrQ2 at *
      generalize g 4 = uTrQ4 at *
      generalize g 5 = uTrQ5 at *
      generalize g 6 = uTrQ6 at *
      generalize g 8 = uTrQ8 at *
      generalize g 9 = uTrQ9 at *
      generalize g 10 = uTrQ10 at *
      clear xB xe
      have hBC := hS.keep HBC.out (by simp)
      have HBC := Lib.hid hBC; have HBD := Lib.hid hB
      have e4 := hS.cel e4 (by simp)
      have HOW := Lib.hid (HOW.out.same hS)
      have HF9 := Lib.hid (HF8.out.trans hS)
      have k3 := cell_of_blk hBC 3; have l3 := cell_of_blk hB 3
      clear hBC hB hS nB HNW HF8 e0 e1 e2 e3 HKW HRW HKA HRA
      obtain ⟨hdl, hln, hgo⟩ := fmB_parts HOW.out.fm
      simp only at hln hdl hgo
      obtain ⟨gh, oh, ch, hvh, hch⟩ := hdRow_cells (sl_of_row HOW.out.row) 0 (by omega)
      injection hvh with hvh _ hvh2
      subst hvh hvh2
      have h1 := hch 1 _ rfl
      simp only [Nat.zero_mul, Nat.add_zero] at h1
      have hfl : (m.getD 0 default).lev = m[0].lev := by rw [List.getD_eq_getElem?_getD, List.getElem?_eq_getElem (by omega)]; rfl
      rw [hfl] at hL1 hL2
      generalize hfz : m[0].lev = fl at *
      have hq1 : decide (ld < lc) = false := decide_eq_false (by omega)
      have hm0 : 0 < m.length := by omega
      have HDL := Lib.hid hdl
      clear hfl hfz hch hdl hgo hln HLC HLD
      -- @@D
      by_cases hbk : 0 ≤ bk
      · have hq2 : decide (0 ≤ bk) = true := decide_eq_true hbk
        go_wp2_with fail
        go_roundw
        case rel => exact ⟨i + 1, by go_num, by omega, Lib.hid (HWA.out.trans HF9.out)⟩
        case measure => simp [RowKit.intOf]; omega
      · have hq2 : decide (0 ≤ bk) = false := decide_eq_false hbk
        go_wp2_with fail
        clear k3 l3 h1 hq1 hq2 e4
        have HBK := Lib.hid hbk
        clear hbk
        go_loopw [30] (fun iv wr => ∃ k : Int, iv = .int .i64 k ∧ fl + 1 ≤ k ∧ k ≤ 4 ∧ Hid (Fr [] w9 wr)) (fun iv _ => (4 - RowKit.intOf iv).toNat)
        case atStart => exact ⟨fl + 1, rfl, by omega, by omega, Lib.hid (Fr.refl _ _)⟩
        case round =>
          obtain ⟨k, rfl, hk1, hk4, HV⟩ := hrel
          by_cases hk3 : k ≤ 3
          · have BZ := (HB.out _ ((F5.out.trans HWA.out).trans (HF9.out.trans HV.out))).2.2
            have z0 := cell_of_blk BZ 0; have z1 := cell_of_blk BZ 1; have z2 := cell_of_blk BZ 2; have z3 := cell_of_blk BZ 3
            clear BZ
            go_wp2_with fail
            refine (CZ.out _).mono ?_
            rintro e w10 ⟨⟨xk, xl, xh, xn⟩, rfl, hxb, hxo, f10⟩
            have XB := Lib.hid hxb; have XO := Lib.hid hxo
            have fv := HV.out.trans f10
            have fA := Fr.alloc [] w10 (.cells #[.int .i64 xk, .int .i64 xl, .int .i64 xh, .bool xn, .int .i64 1, .int .i64 k, .int .i64 3, .bool false] 62); have fB := Fr.alloc [] (w10.alloc (.cells #[.int .i64 xk, .int .i64 xl, .int .i64 xh, .bool xn, .int .i64 1, .int .i64 k, .int .i64 3, .bool false] 62)) (.cells #[.slice (some ⟨w10.heap.size, 0, none⟩) 2 2, .int .i64 1] 66); have fC := Fr.alloc [] ((w10.alloc (.cells #[.int .i64 xk, .int .i64 xl, .int .i64 xh, .bool xn, .int .i64 1, .int .i64 k, .int .i64 3, .bool false] 62)).alloc (.cells #[.slice (some ⟨w10.heap.size, 0, none⟩) 2 2, .int .i64 1] 66)) (.cells #[.slice (some ⟨w10.heap.size, 0, none⟩) 2 2, .int .i64 1] 66); have fD := Fr.alloc [] (((w10.alloc (.cells #[.int .i64 xk, .int .i64 xl, .int .i64 xh, .bool xn, .int .i64 1, .int .i64 k, .int .i64 3, .bool false] 62)).alloc (.cells #[.slice (some ⟨w10.heap.size, 0, none⟩) 2 2, .int .i64 1] 66)).alloc (.cells #[.slice (some ⟨w10.heap.size, 0, none⟩) 2 2, .int .i64 1] 66)) (.cells #[.slice (some ⟨w10.heap.size + 1 + 1, 0, none⟩) 1 1, .int .i64 4] 69); have fE := Fr.alloc [] ((((w10.alloc (.cells #[.int .i64 xk, .int .i64 xl, .int .i64 xh, .bool xn, .int .i64 1, .int .i64 k, .int .i64 3, .bool false] 62)).alloc (.cells #[.slice (some ⟨w10.heap.size, 0, none⟩) 2 2, .int .i64 1] 66)).alloc (.cells #[.slice (some ⟨w10.heap.size, 0, none⟩) 2 2, .int .i64 1] 66)).alloc (.cells #[.slice (some ⟨w10.heap.size + 1 + 1, 0, none⟩) 1 1, .int .i64 4] 69)) (.cells #[.int .i64 d0, .int .i64 d1, .int .i64 d2, .int .i64 lc, .int .i64 0, .bool false, .int .i64 d0, .int .i64 d1, .int .i64 d2, .int .i64 ld, .int .i64 0, .bool false] 54)
            have F4x := ((fA.trans fB).trans fC).trans fD
            have F5x := F4x.trans fE
            have hA := heap_alloc_new w10 (.cells #[.int .i64 xk, .int .i64 xl, .int .i64 xh, .bool xn, .int .i64 1, .int .i64 k, .int .i64 3, .bool false] 62)
            have hB := heap_alloc_new (w10.alloc (.cells #[.int .i64 xk, .int .i64 xl, .int .i64 xh, .bool xn, .int .i64 1, .int .i64 k, .int .i64 3, .bool false] 62)) (.cells #[.slice (some ⟨w10.heap.size, 0, none⟩) 2 2, .int .i64 1] 66); have hC := heap_alloc_new ((w10.alloc (.cells #[.int .i64 xk, .int .i64 xl, .int .i64 xh, .bool xn, .int .i64 1, .int .i64 k, .int .i64 3, .bool false] 62)).alloc (.cells #[.slice (some ⟨w10.heap.size, 0, none⟩) 2 2, .int .i64 1] 66)) (.cells #[.slice (some ⟨w10.heap.size, 0, none⟩) 2 2, .int .i64 1] 66); have hD := heap_alloc_new (((w10.alloc (.cells #[.int .i64 xk, .int .i64 xl, .int .i64 xh, .bool xn, .int .i64 1, .int .i64 k, .int .i64 3, .bool false] 62)).alloc (.cells #[.slice (some ⟨w10.heap.size, 0, none⟩) 2 2, .int .i64 1] 66)).alloc (.cells #[.slice (some ⟨w10.heap.size, 0, none⟩) 2 2, .int .i64 1] 66)) (.cells #[.slice (some ⟨w10.heap.size + 1 + 1, 0, none⟩) 1 1, .int .i64 4] 69); have hE := heap_alloc_new ((((w10.alloc (.cells #[.int .i64 xk, .int .i64 xl, .int .i64 xh, .bool xn, .int .i64 1, .int .i64 k, .int .i64 3, .bool false] 62)).alloc (.cells #[.slice (some ⟨w10.heap.size, 0, none⟩) 2 2, .int .i64 1] 66)).alloc (.cells #[.slice (some ⟨w10.heap.size, 0, none⟩) 2 2, .int .i64 1] 66)).alloc (.cells #[.slice (some ⟨w10.heap.size + 1 + 1, 0, none⟩) 1 1, .int .i64 4] 69)) (.cells #[.int .i64 d0, .int .i64 d1, .int .i64 d2, .int .i64 lc, .int .i64 0, .bool false, .int .i64 d0, .int .i64 d1, .int .i64 d2, .int .i64 ld, .int .i64 0, .bool false] 54)
            simp only [World.size_alloc] at hB hC hD hE
            have r0 := cell_of_blk hB 0; have r1 := cell_of_blk hB 1
            have hbc := (fv.trans F4x).keep HBC.out (by simp); have hbd := (fv.trans F4x).keep HBD.out (by simp)
            have y0 := cell_of_blk hbc 0; have y1 := cell_of_blk hbc 1; have y2 := cell_of_blk hbc 2; have y3 := cell_of_blk hbc 3; have y4 := cell_of_blk hbc 4; have y5 := cell_of_blk hbc 5
            have v0 := cell_of_blk hbd 0; have v1 := cell_of_blk hbd 1; have v2 := cell_of_blk hbd 2; have v3 := cell_of_blk hbd 3; have v4 := cell_of_blk hbd 4; have v5 := cell_of_blk hbd 5
            have HCd := Lib.hid ((((fB.trans fC).trans fD).trans fE).keep hA (by simp))
            have HRs := Lib.hid ((fD.trans fE).keep hC (by simp))
            have HFb := Lib.hid (fE.keep hD (by simp))
            have HCs := Lib.hid hE
            have HX := Lib.hid (fv.trans F5x)
            clear z0 z1 z2 z3 hxb hxo f10 fv fA fB fC fD fE F4x F5x hA hB hC hD hE hbc hbd
            go_wp2_with fail
            clear r0 r1 y0 y1 y2 y3 y4 y5 v0 v1 v2 v3 v4 v5
            generalize hbs : w10.heap.size = bs at *
            generalize (((((w10.alloc (.cells #[.int .i64 xk, .int .i64 xl, .int .i64 xh, .bool xn, .int .i64 1, .int .i64 k, .int .i64 3, .bool false] 62)).alloc (.cells #[.slice (some ⟨bs, 0, none⟩) 2 2, .int .i64 1] 66)).alloc (.cells #[.slice (some ⟨bs, 0, none⟩) 2 2, .int .i64 1] 66)).alloc (.cells #[.slice (some ⟨bs + 1 + 1, 0, none⟩) 1 1, .int .i64 4] 69)).alloc (.cells #[.int .i64 d0, .int .i64 d1, .int .i64 d2, .int .i64 lc, .int .i64 0, .bool false, .int .i64 d0, .int .i64 d1, .int .i64 d2, .int .i64 ld, .int .i64 0, .bool false] 54)) = w11 at *
            have HAL := Lib.hid (((F5.out.trans HWA.out).trans HF9.out).trans HX.out)
            have HRB2 := Lib.hid (fun W (hf : Fr [] w11 W) => And.intro (((F5.out.trans HWA.out).trans HF9.out).trans (HX.out.trans hf)) trivial)
            have hdp := dlB_parts HDL.out
            simp only at hdp
            have HCALL : Hid (∀ j, j < 2 → ∃ lv : Int, lv < k ∧ 0 ≤ lv ∧ lv ≤ 3 ∧ w11.cell? ⟨bs + 1 + 1 + 1 + 1, j * 6, none⟩ = some (.int .i64 d0) ∧ w11.cell? ⟨bs + 1 + 1 + 1 + 1, j * 6 + 1, none⟩ = some (.int .i64 d1) ∧ w11.cell? ⟨bs + 1 + 1 + 1 + 1, j * 6 + 2, none⟩ = some (.int .i64 d2) ∧ w11.cell? ⟨bs + 1 + 1 + 1 + 1, j * 6 + 3, none⟩ = some (.int .i64 lv) ∧ w11.cell? ⟨bs + 1 + 1 + 1 + 1, j * 6 + 4, none⟩ = some (.int .i64 0) ∧ w11.cell? ⟨bs + 1 + 1 + 1 + 1, j * 6 + 5, none⟩ = some (.bool false)) := Lib.hid fun j hj => by
              have : j = 0 ∨ j = 1 := by omega
              rcases this with rfl | rfl
              · exact ⟨lc, by omega, by omega, by omega, cell_of_blk HCs.out 0, cell_of_blk HCs.out 1, cell_of_blk HCs.out 2, cell_of_blk HCs.out 3, cell_of_blk HCs.out 4, cell_of_blk HCs.out 5⟩
              · exact ⟨ld, by omega, by omega, by omega, cell_of_blk HCs.out 6, cell_of_blk HCs.out 7, cell_of_blk HCs.out 8, cell_of_blk HCs.out 9, cell_of_blk HCs.out 10, cell_of_blk HCs.out 11⟩
            have HFL := Lib.hid (ft_at XO.out ⟨by omega, hk3⟩ HCd.out HRs.out)
            have HFB := Lib.hid (ft_b XB.out (k := k) ⟨by omega, hk3⟩)
            have HOKC : Hid (∀ lv : Int, 0 ≤ lv → lv ≤ 3 → CaOk ⟨d0, d1, d2, lv, 0, false⟩ ∧ caB ⟨d0, d1, d2, lv, 0, false⟩ = true) := Lib.hid fun lv h0 h3 => by
              refine ⟨by constructor <;> (constructor <;> simp only <;> omega), ?_⟩
              simp only [caB, isInB, Bool.and_eq_true, decide_eq_true_eq]
              omega
            clear hdp
            go_loopw [134] (fun iv wr => ∃ j : Nat, iv = .int .i64 j ∧ j ≤ 2 ∧ Hid (Fr [] w11 wr)) (fun iv _ => 2 - (RowKit.intOf iv).toNat)
            case atStart => exact ⟨0, rfl, by omega, Lib.hid (Fr.refl _ _)⟩
            case round =>
              obtain ⟨j, rfl, hj, HJ⟩ := hrel
              by_cases hj2 : j < 2
              · obtain ⟨lv, hlk, hl0, hl3, y0, y1, y2, y3, y4, y5⟩ := HCALL.out j hj2
                have fj := HJ.out
                have y0 := fj.cel y0 (by simp); have y1 := fj.cel y1 (by simp); have y2 := fj.cel y2 (by simp); have y3 := fj.cel y3 (by simp); have y4 := fj.cel y4 (by simp); have y5 := fj.cel y5 (by simp)
                have fN := Fr.alloc [] wr (.cells #[.int .i64 d0, .int .i64 d1, .int .i64 d2, .int .i64 lv, .int .i64 0, .bool false] 54)
                have hN := heap_alloc_new wr (.cells #[.int .i64 d0, .int .i64 d1, .int .i64 d2, .int .i64 lv, .int .i64 0, .bool false] 54)
                have fx := fj.trans fN
                have hfb := fx.keep HFb.out (by simp)
                have m0 := cell_of_blk hfb 0; have m1 := cell_of_blk hfb 1
                have fR := HRL.out.trans (HWA.out.trans (HF9.out.trans (HX.out.trans fx)))
                have hrbk := fR.keep HRB.out (by simp)
                have s0 := cell_of_blk hrbk 0; have s1 := cell_of_blk hrbk 1; have s2 := cell_of_blk hrbk 2
                have x0 := cell_of_blk hN 0; have x1 := cell_of_blk hN 1; have x2 := cell_of_blk hN 2; have x3 := cell_of_blk hN 3; have x4 := cell_of_blk hN 4; have x5 := cell_of_blk hN 5
                have CMt := Lib.hid (ft_m (HFL.out.same fx) ((HRO.out.same fR).at_ HMD.out.ok) (HOKC.out lv hl0 hl3).1 (goodF_of HFB.out HMD.out (HOKC.out lv hl0 hl3).2) hlk)
                have CDc := Lib.hid fun W (hf : Fr [] (wr.alloc (.cells #[.int .i64 d0, .int .i64 d1, .int .i64 d2, .int .i64 lv, .int .i64 0, .bool false] 54)) W) => ft_d (HFL.out.same (fx.trans hf)) ((HRO.out.same (fR.trans hf)).at_ HMD.out.ok) (HOKC.out lv hl0 hl3).1 (goodF_of HFB.out HMD.out (HOKC.out lv hl0 hl3).2) hlk
                have HFX := Lib.hid fx
                clear fj fN hN fx hfb fR hrbk
                go_wp2_with fail
                refine CMt.out.mono ?_
                rintro e w12 ⟨rfl, f12⟩
                have m0 := f12.cel m0 (by simp); have m1 := f12.cel m1 (by simp)
                have s0 := f12.cel s0 (by simp); have s1 := f12.cel s1 (by simp); have s2 := f12.cel s2 (by simp)
                have x0 := f12.cel x0 (by simp); have x1 := f12.cel x1 (by simp); have x2 := f12.cel x2 (by simp); have x3 := f12.cel x3 (by simp); have x4 := f12.cel x4 (by simp); have x5 := f12.cel x5 (by simp)
                have HFY := Lib.hid (HFX.out.trans f12)
                have CDx := Lib.hid (CDc.out _ f12)
                clear f12 CMt CDc y0 y1 y2 y3 y4 y5
                go_wp2_with fail
                refine CDx.out.mono ?_
                rintro e w13 ⟨f13, r, aF, nF, pF, aP, nP, pP, rfl⟩
                have HFZ := Lib.hid ((HFY.out.trans f13).trans (Fr.alloc [] w13 (.cells #[.int .i64 4, .int .i64 r, .slice aF nF pF, .slice aP nP pP] 75)))
                have r0 := cell_of_blk (heap_alloc_new w13 (.cells #[.int .i64 4, .int .i64 r, .slice aF nF pF, .slice aP nP pP] 75)) 0
                clear f13 CDx m0 m1 s0 s1 s2 x0 x1 x2 x3 x4 x5
                go_wp2_with fail
                go_roundw
                case rel => exact ⟨j + 1, by go_num, by omega, HFZ⟩
                case measure => simp [RowKit.intOf]; omega
              · go_wp2_with fail
                go_roundw
                case rel => exact ⟨k + 1, by go_num, by omega, by omega, Lib.hid (HX.out.trans HJ.out)⟩
                case measure => simp [RowKit.intOf]; omega
          · go_wp2_with fail
            go_roundw
            case rel => exact ⟨i + 1, by go_num, by omega, Lib.hid (HWA.out.trans (HF9.out.trans HV.out))⟩
            case measure => simp [RowKit.intOf]; omega
    · obtain rfl : i = 2 := by omega
      go_wp2_with fail
      go_ret
      exact ⟨rfl, (F1.out.trans (F5.out.trans HW.out)).below⟩

theorem var_heapT {P : Program} {W : World} {n : String} {g : Nat} {cs : Array Value} (hg : P.globalNamed n = some g) (h : W.var? P n = some cs) : ∃ t fz, W.heap[g]? = some (.cells cs t fz) := by
  unfold World.var? at h
  simp only [hg, Option.bind_some] at h
  split at h
  · rename_i cs' t fz heq
    cases h
    exact ⟨t, fz, heq⟩
  · cases h
theorem rnd_of_laidT {W : World} {r : List (String × DataW Unit)} (h2 : laidMet Tryz.prog (("dialtone/digest.round", Rows.laid_dialtone_digest_round) :: r) W) : RndAt W := by
  have e : (Rows.laid_dialtone_digest_round : DataW Unit) = Lib.tabData .u32 kTab := rfl
  rw [e] at h2
  have h3 := Lib.tabIs_of_head (P := Tryz.prog) (g := 0) (by kernel_rfl) (by kernel_rfl) Tryz.underlying270 Tryz.underlying225 (by kernel_rfl) (by kernel_rfl) h2
  unfold Lib.TabIs at h3
  exact var_heapT (by kernel_rfl) h3

set_option maxRecDepth 100000 in
theorem walk_FilterTrusts {H : Type} {enc : TypeId × Value → H} {base : Nat} (W : World) {v0 v1 v2 v3 v4 v5 v6 : Value} {d0 d1 d2 d3 d4 d5 d6 : DataW H} {p0 p1 p2 p3 p4 p5 p6 : List MemPlace} (hR : RndAt W) (k0 : Value.okWide Tryz.prog W .any base 26 v0) (h0 : DataW.Trod enc Tryz.prog W 0 (fun _ => true) true 26 v0 d0 p0) (k1 : Value.okWide Tryz.prog W .any base 3 v1) (h1 : DataW.Trod enc Tryz.prog W 0 (fun _ => true) true 3 v1 d1 p1) (k2 : Value.okWide Tryz.prog W .any base 3 v2) (h2 : DataW.Trod enc Tryz.prog W 0 (fun _ => true) true 3 v2 d2 p2)
    (k3 : Value.okWide Tryz.prog W .any base 3 v3) (h3 : DataW.Trod enc Tryz.prog W 0 (fun _ => true) true 3 v3 d3 p3) (k4 : Value.okWide Tryz.prog W .any base 3 v4) (h4 : DataW.Trod enc Tryz.prog W 0 (fun _ => true) true 3 v4 d4 p4) (k5 : Value.okWide Tryz.prog W .any base 30 v5) (h5 : DataW.Trod enc Tryz.prog W 0 (fun _ => true) true 30 v5 d5 p5) (k6 : Value.okWide Tryz.prog W .any base 22 v6) (h6 : DataW.Trod enc Tryz.prog W 0 (fun _ => true) true 22 v6 d6 p6) :
    Calls Tryz.prog 3 #[v0, v1, v2, v3, v4, v5, v6] W fun e W' => e = .returned (.bool true) ∧ Below W.heap.size W W' := by
  obtain ⟨q0, q1, q2, q3, lev, vc, F, e0, e1, e2, e3, e4, e5, e6, e7, rfl, ⟨g0, g1, g2, g3⟩, gl, ⟨hF, hFi⟩, hks⟩ := open_nums25 k0 h0
  obtain ⟨a, rfl, ha⟩ := open_i64 Tryz.underlying3 k1 h1
  obtain ⟨b, rfl, hb⟩ := open_i64 Tryz.underlying3 k2 h2
  obtain ⟨c, rfl, hc⟩ := open_i64 Tryz.underlying3 k3 h3
  obtain ⟨d, rfl, hd⟩ := open_i64 Tryz.underlying3 k4 h4
  obtain ⟨_, _, _, n1, n2, n3, is1, is2, is3, rfl, b1, b2, b3⟩ := open_numbers k5 h5
  obtain ⟨za, zb, zc, zd, rfl, z1, z2, z3, z4⟩ := open_i4 k6 h6
  exact trusts_c q0 q1 q2 q3 lev vc F e0 e1 e2 e3 e4 e5 e6 e7 a b c d _ _ _ n1 n2 n3 is1 is2 is3 za zb zc zd W hR g0 g1 g2 g3 gl hF hFi hks ⟨ha.1, ha.2⟩ ⟨hb.1, hb.2⟩ ⟨hc.1, hc.2⟩ ⟨hd.1, hd.2⟩ b1 b2 b3 z1 z2 z3 z4


end Go.Proofs.YtahfpadaoobkfaaGreatDoor
