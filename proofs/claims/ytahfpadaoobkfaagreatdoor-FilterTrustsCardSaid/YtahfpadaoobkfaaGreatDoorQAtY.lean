/-
  attest: Blame's closures.
-/
import Derived.Test.YtahfpadaoobkfaaGreatDoorQS24
import Derived.Test.YtahfpadaoobkfaaGreatDoorQS31
namespace Go.Proofs.YtahfpadaoobkfaaGreatDoor
open Go.RowKit Go.Lib

theorem blame1_c (s : ByteArray) (w : World) : Calls Tryz.prog 36 #[.string s] w fun e w' => e = .returned (.bool (!decide (s.size = 32))) ∧ w = w' := by
  have CK := Lib.hid (atIsKey_c s w)
  generalize decide (s.size = 32) = b at *
  go_enter Tryz.func36, Tryz.ntmps36
  go_wp2_with fail
  refine CK.out.mono ?_
  rintro e w1 ⟨rfl, rfl⟩
  go_wp2_with fail
  go_ret
  exact ⟨rfl, rfl⟩
theorem blame2_c (n : Int) (w : World) : Calls Tryz.prog 38 #[.int .i64 n] w fun e w' => e = .returned (.bool (!isInB n 0 255)) ∧ w = w' := by
  have CK := Lib.hid (atIsIn_c n 0 255 w)
  generalize isInB n 0 255 = b at *
  go_enter Tryz.func38, Tryz.ntmps38
  go_wp2_with fail
  refine CK.out.mono ?_
  rintro e w1 ⟨rfl, rfl⟩
  go_wp2_with fail
  go_ret
  exact ⟨rfl, rfl⟩

/-- The hand that the closure saw last; a carrier below 0 at first. -/
def lastH (pre : List HdX) : Hd × List UInt8 := match pre.getLast? with
  | some y => if 0 ≤ y.2.1.car ∧ y.2.1.car ≤ 7 then y.2 else (⟨-1, 0, ByteArray.empty⟩, [])
  | none => (⟨-1, 0, ByteArray.empty⟩, [])
theorem lastH_snoc (pre : List HdX) (x : HdX) (h : 0 ≤ x.2.1.car ∧ x.2.1.car ≤ 7) : lastH (pre ++ [x]) = x.2 := by
  unfold lastH
  rw [List.getLast?_append]
  simp only [List.getLast?_singleton, Option.some_or]
  rw [if_pos h]
theorem lastH_car (pre : List HdX) : (lastH pre).1.car = -1 ∨ (0 ≤ (lastH pre).1.car ∧ (lastH pre).1.car ≤ 7) := by
  unfold lastH
  cases pre.getLast? with
  | none => exact .inl rfl
  | some y =>
    simp only
    split
    · right; assumption
    · exact .inl rfl
theorem ne_bne (a b : Int) : decide (a ≠ b) = (a != b) := by by_cases h : a = b <;> simp [h]
/-- What a carrier that knows some carriers should have said. -/
def mostM (kn : Int) (y : Hd) : Int := if bits .and .i64 (kn / 2 ^ y.car.toNat) 1 == 0 then min y.lev 1 else y.lev
/-- Was a hand not as it should be, behind another one? -/
def blmB (keys : List ByteArray) (knows : List Int) (y : Hd) (x : Hd × List UInt8) : Bool :=
  if rightM keys x then (if y.car < 0 then false else decide (x.1.lev ≠ mostM (knows.getD x.1.car.toNat 0) y)) else true

set_option maxRecDepth 100000 in
set_option maxHeartbeats 4000000 in
theorem blame3_c (kv : Value) (keys : List ByteArray) (nv : Value) (knows : List Int) (bl bk bn : Nat) (y : Hd) (yc : List UInt8) (h : Hd) (c : List UInt8) (w : World) (hR : RndAt w) (hRl : 0 ≠ bl) (hc : c.length ≤ 1000000) (hcar : 0 ≤ h.car ∧ h.car ≤ 7) (hy : y.car = -1 ∨ (0 ≤ y.car ∧ y.car ≤ 7))
    (hbl : w.heap[bl]? = some (.cells #[.int .i64 y.car, .int .i64 y.lev, .string y.sig, .string (str yc)] 122 (0, 0))) (hbk : w.heap[bk]? = some (.cells #[kv] 38 (0, 0))) (hbn : w.heap[bn]? = some (.cells #[nv] 23 (0, 0)))
    (hK : Sl w kv keys.length (keys.map Value.string)) (hkl : keys.length = 8) (hkz : ∀ k, k ∈ keys → k.size ≤ 1000000) (hK2 : ∀ g, kv.ownBlock = some g → g ≠ bl) (hN : Sl w nv knows.length (knows.map (Value.int .i64))) (hnl : knows.length = 8) (hn : ∀ n, n ∈ knows → 0 ≤ n ∧ n ≤ 255) (hN2 : ∀ g, nv.ownBlock = some g → g ≠ bl) :
    Calls Tryz.prog 46 #[hxV h c, .pointer (some ⟨bl, 0, none⟩), .pointer (some ⟨bk, 0, none⟩), .pointer (some ⟨bn, 0, none⟩)] w fun e w' => e = .returned (.bool (blmB keys knows y (h, c))) ∧ w'.heap[bl]? = some (.cells #[.int .i64 h.car, .int .i64 h.lev, .string h.sig, .string (str c)] 122 (0, 0)) ∧ Fr [bl] w w' := by
  obtain ⟨xc, xv, xs⟩ := h
  obtain ⟨yk, yv, ys⟩ := y
  simp only at hcar hy hbl
  obtain ⟨m, rfl⟩ := Int.eq_ofNat_of_zero_le hcar.1
  have hm8 : m < keys.length := by omega
  have hm8n : m < knows.length := by omega
  obtain ⟨ka, kc, rfl⟩ := hK.val
  obtain ⟨na, nc, rfl⟩ := hN.val
  obtain ⟨kb, ko, rfl, hkc⟩ := hK.at_ (by omega)
  obtain ⟨nb, no, rfl, hnc⟩ := hN.at_ (by omega)
  have hkb := hK2 kb rfl
  have hnb := hN2 nb rfl
  have k0 := hkc m (.string keys[m]) (by simp [hm8])
  have n0 := hnc m (.int .i64 knows[m]) (by simp [hm8n])
  have hkm := hkz _ (List.getElem_mem hm8)
  have hnm := hn _ (List.getElem_mem hm8n)
  have HB : Hid (blmB keys knows ⟨yk, yv, ys⟩ (⟨(m : Int), xv, xs⟩, c) = if decide (xs = sealM keys[m] c) then (if yk < 0 then false else decide (xv ≠ mostM knows[m] ⟨yk, yv, ys⟩)) else true) := Lib.hid (by
    simp only [blmB, rightM, keyAt, Int.toNat_natCast, List.getD_eq_getElem?_getD, List.getElem?_eq_getElem hm8, List.getElem?_eq_getElem hm8n, Option.getD_some])
  generalize blmB keys knows ⟨yk, yv, ys⟩ (⟨(m : Int), xv, xs⟩, c) = R at *
  have hbkl : bk ≠ bl := fun e => by subst e; rw [hbk] at hbl; cases hbl
  have hbnl : bn ≠ bl := fun e => by subst e; rw [hbn] at hbl; cases hbl
  have hblw := blk_lt hbl
  obtain ⟨KS0, FS⟩ := set4 hbl (.int .i64 (m : Int)) (.int .i64 xv) (.string xs) (.string (str c))
  have hsz : ((((w.setCell ⟨bl, 0, none⟩ (.int .i64 (m : Int))).setCell ⟨bl, 1, none⟩ (.int .i64 xv)).setCell ⟨bl, 2, none⟩ (.string xs)).setCell ⟨bl, 3, none⟩ (.string (str c))).heap.size = w.heap.size := by simp
  have f0 := (Fr.alloc [] ((((w.setCell ⟨bl, 0, none⟩ (.int .i64 (m : Int))).setCell ⟨bl, 1, none⟩ (.int .i64 xv)).setCell ⟨bl, 2, none⟩ (.string xs)).setCell ⟨bl, 3, none⟩ (.string (str c))) (.cells #[.int .i64 (m : Int), .int .i64 xv, .string xs, .string (str c)] 122)).trans (Fr.alloc [] _ (.cells #[.int .i64 yk, .int .i64 yv, .string ys, .string (str yc)] 122))
  have A2 := alloc2' ((((w.setCell ⟨bl, 0, none⟩ (.int .i64 (m : Int))).setCell ⟨bl, 1, none⟩ (.int .i64 xv)).setCell ⟨bl, 2, none⟩ (.string xs)).setCell ⟨bl, 3, none⟩ (.string (str c))) (.cells #[.int .i64 (m : Int), .int .i64 xv, .string xs, .string (str c)] 122) (.cells #[.int .i64 yk, .int .i64 yv, .string ys, .string (str yc)] 122)
  rw [hsz] at A2
  have KS := f0.keep KS0 (by simp)
  have FW := FS.trans (f0.mono (fp2 := [bl]) (by simp))
  obtain ⟨D1, D2⟩ := A2
  have CS := Lib.hid fun (W : World) (hf : Fr [bl] w W) => seal_c ⟨(m : Int), xv, xs⟩ c keys[m] W (hR.same hf (by simpa using hRl)) hc hkm
  unfold hxV at CS ⊢
  simp only at CS ⊢
  have c0 := cell_of_blk hbl 0; have c1 := cell_of_blk hbl 1; have c2 := cell_of_blk hbl 2; have c3 := cell_of_blk hbl 3
  have u0 := free_of_blk hbl 0; have u1 := free_of_blk hbl 1; have u2 := free_of_blk hbl 2; have u3 := free_of_blk hbl 3
  have HKS := Lib.hid KS; have HFW := Lib.hid FW; have HD1 := Lib.hid D1; have HD2 := Lib.hid D2
  have HE0 := Lib.hid (FW.cel k0 (by simpa using hkb)); have HE1 := Lib.hid (FW.cel n0 (by simpa using hnb)); have HE2 := Lib.hid (FW.cel (cell_of_blk hbk 0) (by simpa using hbkl)); have HE3 := Lib.hid (FW.cel (cell_of_blk hbn 0) (by simpa using hbnl))
  generalize sealM keys[m] c = S at *
  generalize hky : keys[m] = ky at *
  generalize knows[m] = kn at *
  generalize str c = C at *
  generalize str yc = YC at *
  clear hR hRl hc hbl hbk hbn hK hkz hK2 hN hn hN2 hkc hnc k0 n0 f0 KS KS0 FS FW D1 D2 hkm hky hsz
  rw [hkl] at HE2
  rw [hnl] at HE3
  have hmI : (m : Int) < 8 := by omega
  clear hkl hnl hm8 hm8n hcar
  go_enter Tryz.func46, Tryz.ntmps46
  go_wp2_with fail
  clear c0 c1 c2 c3 u0 u1 u2 u3
  generalize hgz : w.heap.size = gz at *
  generalize ((((((w.setCell ⟨bl, 0, none⟩ (.int .i64 (m : Int))).setCell ⟨bl, 1, none⟩ (.int .i64 xv)).setCell ⟨bl, 2, none⟩ (.string xs)).setCell ⟨bl, 3, none⟩ (.string C)).alloc (.cells #[.int .i64 (m : Int), .int .i64 xv, .string xs, .string C] 122)).alloc (.cells #[.int .i64 yk, .int .i64 yv, .string ys, .string YC] 122)) = W1 at *
  have d0 := cell_of_blk HD1.out 0; have d1 := cell_of_blk HD1.out 1; have d2 := cell_of_blk HD1.out 2; have d3 := cell_of_blk HD1.out 3
  have g0 := HE0.out; have g1 := HE2.out
  refine reg_mix (Fr [] W1) [0, 1, 2, 3, 4, 5, 6, 7, 8, 9, 10, 11] (by kernel_rfl) (by kernel_rfl) (by kernel_rfl) rfl (Fr.drew _ _) ?_
  have FC : Fr [] W1 W1.drew := Fr.drew _ _
  generalize W1.drew = WC at FC ⊢
  iterate 10 (refine mix_take1 (v := ?_) rfl rfl rfl rfl (fun w hS => ?_) ?_; rotate_left; (focus (have e0 := hS.cel d0 (by simp); have e1 := hS.cel d1 (by simp); have e2 := hS.cel d2 (by simp); have e3 := hS.cel d3 (by simp); have e4 := hS.cel g0 (by simp); have e5 := hS.cel g1 (by simp); clear hS; go_simp; (try rw [if_pos hmI]); rfl)); simp only [List.setIfInBounds_toArray, List.set_cons_succ, List.set_cons_zero])
  refine mix_do rfl rfl rfl (fun K hK => ?_)
  go_simp
  refine (CS.out _ (HFW.out.trans (FC.mono (by simp)))).mono ?_
  rintro e w2 ⟨rfl, f1⟩
  have FC := FC.trans f1
  clear f1 CS
  refine hK _ _ FC ?_
  clear hK K
  try simp only [Act.put, List.setIfInBounds_toArray, List.set_cons_succ, List.set_cons_zero]
  (refine mix_take1 (v := ?_) rfl rfl rfl rfl (fun w hS => ?_) ?_; rotate_left; (focus (clear hS; go_simp; rfl)); simp only [List.setIfInBounds_toArray, List.set_cons_succ, List.set_cons_zero])
  refine mix_end ?_
  have HKS2 := Lib.hid (FC.keep HKS.out (by simp))
  have HF2 := Lib.hid (HFW.out.trans (FC.mono (by simp)))
  have t0 := FC.cel d0 (by simp); have t1 := FC.cel d1 (by simp)
  have t4 := FC.cel (cell_of_blk HD2.out 0) (by simp); have t3 := FC.cel (cell_of_blk HD2.out 1) (by simp)
  have t5 := FC.cel HE1.out (by simp); have t6 := FC.cel HE3.out (by simp)
  clear FC d0 d1 d2 d3 g0 g1 HE0 HE1 HE2 HE3 HD1 HD2 HKS HFW
  by_cases hr : xs = S
  · have hq : (xs.toList == S.toList) = true := by rw [strs_beq, decide_eq_true hr]
    have HB2 : Hid (R = if yk < 0 then false else decide (xv ≠ mostM kn ⟨yk, yv, ys⟩)) := Lib.hid (by rw [HB.out, if_pos (decide_eq_true hr)])
    clear hr HB
    simp only [hq, Bool.not_true]
    by_cases hy0 : yk < 0
    · have HE : Hid (R = false) := Lib.hid (by rw [HB2.out, if_pos hy0])
      have hy1 : decide (yk < 0) = true := decide_eq_true hy0
      clear HB2
      go_wp2_with fail
      go_ret
      exact ⟨by rw [HE.out]; rfl, HKS2.out, HF2.out⟩
    · have hk7 : 0 ≤ yk ∧ yk ≤ 7 := by omega
      obtain ⟨k, rfl⟩ := Int.eq_ofNat_of_zero_le hk7.1
      obtain ⟨n, rfl⟩ := Int.eq_ofNat_of_zero_le hnm.1
      have HB3 : Hid (R = decide (xv ≠ mostM (n : Int) ⟨(k : Int), yv, ys⟩)) := Lib.hid (by rw [HB2.out, if_neg hy0])
      have hn255 : n ≤ 255 := by omega
      have hk77 : k ≤ 7 := by omega
      clear HB2 hy hy0 hk7 hnm
      go_wp2_with fail
      refine reg_mix (Fr [] w2) [0, 1, 2, 3, 4, 5, 6, 7, 8, 9, 10, 11] (by kernel_rfl) (by kernel_rfl) (by kernel_rfl) rfl (Fr.drew _ _) ?_
      have FC : Fr [] w2 w2.drew := Fr.drew _ _
      generalize w2.drew = WC at FC ⊢
      iterate 9 (refine mix_take1 (v := ?_) rfl rfl rfl rfl (fun w hS => ?_) ?_; rotate_left; (focus (have e0 := hS.cel t0 (by simp); have e1 := hS.cel t4 (by simp); have e2 := hS.cel t5 (by simp); have e3 := hS.cel t6 (by simp); clear hS; go_simp; (try rw [if_pos hmI]); rfl)); simp only [List.setIfInBounds_toArray, List.set_cons_succ, List.set_cons_zero])
      iterate 3 (refine mix_take1 (v := ?_) rfl rfl rfl rfl (fun w hS => ?_) ?_; rotate_left; (focus (clear hS; go_simp; rfl)); simp only [List.setIfInBounds_toArray, List.set_cons_succ, List.set_cons_zero])
      refine mix_end ?_
      have HX : Hid (R = decide (xv ≠ if bits .and .i64 ((n : Int) / 2 ^ k) 1 == 0 then min yv 1 else yv)) := Lib.hid (by rw [HB3.out]; rfl)
      have HKS3 := Lib.hid (FC.keep HKS2.out (by simp))
      have HF3 := Lib.hid (HF2.out.trans (FC.mono (by simp)))
      have r0 := FC.cel t0 (by simp); have r1 := FC.cel t1 (by simp); have r3 := FC.cel t3 (by simp)
      clear HB3 HKS2 HF2 FC t0 t1 t3 t4 t5 t6
      cases hb : (bits .and .i64 ((n : Int) / 2 ^ k) 1 == 0) with
      | true =>
        rw [hb] at HX
        have HX2 : Hid (R = decide (xv ≠ min yv 1)) := Lib.hid (by rw [HX.out]; rfl)
        clear HX
        try rw [hb]
        go_wp2_with fail
        go_ret
        exact ⟨by rw [HX2.out, ne_bne]; rfl, HKS3.out, HF3.out⟩
      | false =>
        rw [hb] at HX
        have HX2 : Hid (R = decide (xv ≠ yv)) := Lib.hid (by rw [HX.out]; rfl)
        clear HX
        try rw [hb]
        go_wp2_with fail
        go_ret
        exact ⟨by rw [HX2.out, ne_bne]; rfl, HKS3.out, HF3.out⟩
  · have hq : (xs.toList == S.toList) = false := by rw [strs_beq, decide_eq_false hr]
    have HE : Hid (R = true) := Lib.hid (by rw [HB.out, if_neg (by simpa using hr)])
    clear hr HB
    simp only [hq, Bool.not_false]
    go_wp2_with fail
    go_ret
    exact ⟨by rw [HE.out]; rfl, HKS2.out, HF2.out⟩

theorem lastH_snoc2 (pre : List HdX) (x : HdX) (h : GdX x) : lastH (pre ++ [x]) = x.2 := lastH_snoc pre x ⟨h.2.1, h.2.2.1⟩
abbrev lastC (pre : List HdX) : Array Value := #[.int .i64 (lastH pre).1.car, .int .i64 (lastH pre).1.lev, .string (lastH pre).1.sig, .string (str (lastH pre).2)]
theorem fstV_form (o : Option (Nat × Hd × List UInt8)) : ∃ (i : Int) (a b : Int) (s t : ByteArray), fstV o = .tuple #[.int .i64 i, .agg #[.int .i64 a, .int .i64 b, .string s, .string t]] := by
  cases o with
  | none => exact ⟨_, _, _, _, _, rfl⟩
  | some x => exact ⟨_, _, _, _, _, rfl⟩

set_option maxRecDepth 100000 in
set_option maxHeartbeats 4000000 in
theorem blame_c (kv : Value) (keys : List ByteArray) (nv : Value) (knows : List Int) (d : Dl) (v : Value) (hs : List Hd) (w : World) (hR : RndAt w) (hK : Sl w kv keys.length (keys.map Value.string)) (hkl : keys.length = 8) (hkz : ∀ k, k ∈ keys → k.size = 32)
    (hN : Sl w nv knows.length (knows.map (Value.int .i64))) (hnl : knows.length = 8) (hn : ∀ n, n ∈ knows → 0 ≤ n ∧ n ≤ 255) (hrow : w.ownsRow 0 60 3 v hs.length (hs.flatMap hdC)) (hfm : fmB ⟨d, hs⟩ = true) :
    Calls Tryz.prog 10 #[kv, nv, atV d v] w fun e w' => ∃ k : Int, e = .returned (.tuple #[.int .i64 k, .int .i64 0]) ∧ Fr [] w w' := by
  obtain ⟨hdl, hln, hgo⟩ := fmB_parts hfm
  simp only at hdl hln hgo
  have hsl := sl_of_row hrow
  obtain ⟨ha, hc, rfl⟩ := hsl.val
  obtain ⟨ka, kc, rfl⟩ := hK.val
  obtain ⟨na, nc, rfl⟩ := hN.val
  have A3 := alloc3' w (.cells #[.slice ka keys.length kc] 38) (.cells #[.slice na knows.length nc] 23) (.cells #[.int .i64 d.caller, .int .i64 d.called, .int .i64 d.at_, .int .i64 d.serial, .slice ha hs.length hc] 44)
  have F3 := ((Fr.alloc [] w (.cells #[.slice ka keys.length kc] 38)).trans (Fr.alloc [] _ (.cells #[.slice na knows.length nc] 23))).trans (Fr.alloc [] _ (.cells #[.int .i64 d.caller, .int .i64 d.called, .int .i64 d.at_, .int .i64 d.serial, .slice ha hs.length hc] 44))
  have hz : ∀ h, h ∈ hs → h.sig.size ≤ 9223372036854775807 := fun h hh => by have := fmGo_le _ _ _ hgo h hh; omega
  have CF := Lib.hid (formed_c d _ hs _ (hsl.same F3) hz)
  rw [hfm] at CF
  have hkB : keysB keys = true := by
    unfold keysB
    rw [hkl, Bool.and_eq_true, List.all_eq_true]
    exact ⟨rfl, fun k hk => by rw [hkz k hk]; rfl⟩
  have CK := Lib.hid fun (W : World) (hf : Fr [] w W) => isKnown_c _ keys W (hK.same hf)
  rw [hkB] at CK
  have h1 : anyN (fun k => !decide ((keys.getD k ByteArray.empty).size = 32)) keys.length = false := anyN_false fun j hj => by
    rw [List.getD_eq_getElem?_getD, List.getElem?_eq_getElem hj, Option.getD_some, hkz _ (List.getElem_mem hj)]
    rfl
  have h2 : anyN (fun k => !isInB (knows.getD k 0) 0 255) knows.length = false := anyN_false fun j hj => by
    have := hn _ (List.getElem_mem hj)
    rw [List.getD_eq_getElem?_getD, List.getElem?_eq_getElem hj, Option.getD_some, isInB_iff.2 this]
    rfl
  have C1 := Lib.hid fun (W : World) (hf : Fr [] w W) => cfStr_c 36 #[] (fun _ _ => rfl) ka kc keys (fun k => !decide ((keys.getD k ByteArray.empty).size = 32)) (fun _ W' => W' = W) W (fun k W' hJ => hJ ▸ hK.same hf) (fun k W' hk _ hJ => (blame1_c _ W').mono fun e w' ⟨he, hw⟩ => ⟨he, hw ▸ hJ⟩) rfl
  have C2 := Lib.hid fun (W : World) (hf : Fr [] w W) => cfInt_c 38 #[] (fun _ _ => rfl) na nc knows (fun k => !isInB (knows.getD k 0) 0 255) (fun _ W' => W' = W) W (fun k W' hJ => hJ ▸ hN.same hf) (fun k W' hk _ hJ => (blame2_c _ W').mono fun e w' ⟨he, hw⟩ => ⟨he, hw ▸ hJ⟩) rfl
  rw [h1] at C1
  rw [h2] at C2
  obtain ⟨d0, d1, d2, d3⟩ := d
  simp only at A3 F3 CF
  have HA := Lib.hid A3; have HF := Lib.hid F3; have HR := Lib.hid hR; have HK := Lib.hid hK; have HN := Lib.hid hN; have HKZ := Lib.hid hkz; have HNR := Lib.hid hn; have HRow := Lib.hid hrow
  have HKL := Lib.hid hkl; have HNL := Lib.hid hnl; have HDL := Lib.hid hdl; have HGO := Lib.hid hgo
  have hq : ((knows.length : Int) != 8) = false := by rw [hnl]; rfl
  clear A3 F3 hR hK hN hkz hn hrow hsl hz hkB h1 h2 hfm hdl hgo hkl hnl
  go_enter Tryz.func10, Tryz.ntmps10
  go_wp2_with fail
  refine CF.out.mono ?_
  rintro e w1 ⟨rfl, f1⟩
  have F1 := Lib.hid (HF.out.trans f1)
  have B1 := f1.keep HA.out.1 (by simp); have B2 := f1.keep HA.out.2.1 (by simp); have B3 := f1.keep HA.out.2.2 (by simp)
  have HB := Lib.hid (And.intro B1 (And.intro B2 B3))
  have c0 := cell_of_blk B1 0; have c1 := cell_of_blk B2 0
  clear f1 CF B1 B2 B3 HA HF
  go_wp2_with fail
  refine (CK.out _ F1.out).mono ?_
  rintro e w2 ⟨rfl, rfl⟩
  go_wp2_with fail
  refine (C1.out _ F1.out).mono ?_
  rintro e w2 ⟨rfl, _, rfl⟩
  go_wp2_with fail
  refine (C2.out _ F1.out).mono ?_
  rintro e w2 ⟨rfl, _, rfl⟩
  clear c0 c1 CK C1 C2
  have fL := Fr.alloc [] w2 (.cells #[.int .i64 (-1), .int .i64 0, .string ⟨#[]⟩, .string ⟨#[]⟩] 122)
  have BL := heap_alloc_new w2 (.cells #[.int .i64 (-1), .int .i64 0, .string ⟨#[]⟩, .string ⟨#[]⟩] 122)
  have hszL : (w2.alloc (.cells #[.int .i64 (-1), .int .i64 0, .string ⟨#[]⟩, .string ⟨#[]⟩] 122)).heap.size = w2.heap.size + 1 := by simp
  have e0 := fL.cel (cell_of_blk HB.out.2.2 0) (by simp); have e1 := fL.cel (cell_of_blk HB.out.2.2 1) (by simp); have e2 := fL.cel (cell_of_blk HB.out.2.2 2) (by simp); have e3 := fL.cel (cell_of_blk HB.out.2.2 3) (by simp); have e4 := fL.cel (cell_of_blk HB.out.2.2 4) (by simp)
  have CH := Lib.hid fun W => hands_c ⟨d0, d1, d2, d3⟩ (.slice ha hs.length hc) W
  have hwb := blk_lt HB.out.2.2
  have HFL := Lib.hid fL; have HBL := Lib.hid BL; have HSL := Lib.hid hszL
  clear fL BL hszL
  go_wp2_with fail
  refine (CH.out _).mono ?_
  rintro e w3 ⟨rfl, hw3⟩
  have f3 := Fr.alloc [] (w2.alloc (.cells #[.int .i64 (-1), .int .i64 0, .string ⟨#[]⟩, .string ⟨#[]⟩] 122)) (.cells #[.int .i64 d0, .int .i64 d1, .int .i64 d2, .int .i64 d3, .slice ha hs.length hc] 44)
  have D3 := heap_alloc_new (w2.alloc (.cells #[.int .i64 (-1), .int .i64 0, .string ⟨#[]⟩, .string ⟨#[]⟩] 122)) (.cells #[.int .i64 d0, .int .i64 d1, .int .i64 d2, .int .i64 d3, .slice ha hs.length hc] 44)
  rw [← hw3] at f3 D3
  rw [HSL.out] at D3
  have F3 := (F1.out.trans HFL.out).trans f3
  have hrl := rnd_lt HR.out
  have hw2 := F1.out.size
  have own_lt : ∀ {e : TypeId} {z n : Nat} {a : Option Addr} {c : Nat} {xs : List Value}, Sl w (.slice a n c) n xs → 0 < n → 0 < xs.length → ∀ g, (Value.slice a n c).ownBlock = some g → g < w.heap.size := fun {e z n a c xs} h h0 h1 g hg => by
    obtain ⟨kb, ko, hka, hcl⟩ := h.at_ h0
    subst hka
    have hlt2 := cell_ltT (hcl 0 xs[0] (by simp))
    have hkg : kb = g := by simpa [Value.ownBlock] using hg
    omega
  have FI := first_c 46 #[.pointer (some ⟨w2.heap.size, 0, none⟩), .pointer (some ⟨w.heap.size, 0, none⟩), .pointer (some ⟨w.heap.size + 1, 0, none⟩)] (fun _ _ => rfl) ⟨d0, d1, d2, d3⟩ (.slice ha hs.length hc) hs (w2.heap.size + 1) w2.heap.size 122 lastC (fun pre x => blmB keys knows (lastH pre).1 x.2) w3 HDL.out
    (fun h hh => by have := fmGo_le _ _ _ HGO.out h hh; omega) (by omega) D3 (by omega) (row_fr HRow.out F3 (by simp)) (fun g hg => by have := ownsRow_lt HRow.out hg; omega) (f3.keep HBL.out (by simp))
    (fun pre x W hx hf hb => by
      obtain ⟨xi, xh, xc⟩ := x
      have hfw : Fr [w2.heap.size] w W := (F3.mono (by simp)).trans hf
      have hfk := (HFL.out.trans f3).mono (fp2 := [w2.heap.size]) (by simp)
      have hkk := (HFL.out.trans f3)
      have h8 := HKL.out
      have h9 := HNL.out
      refine (blame3_c (.slice ka keys.length kc) keys (.slice na knows.length nc) knows w2.heap.size w.heap.size (w.heap.size + 1) (lastH pre).1 (lastH pre).2 xh xc W (HR.out.same hfw (by simp; omega)) (by omega) (by have := hx.1; simp only at this; omega) ⟨hx.2.1, hx.2.2.1⟩ (lastH_car pre) hb ((hfk.trans hf).keep HB.out.1 (by simp; omega)) ((hfk.trans hf).keep HB.out.2.1 (by simp; omega))
        (HK.out.fr hfw (fun g hg hm => by rw [List.mem_singleton] at hm; have := own_lt (e := 0) (z := 0) HK.out (by omega) (by simp; omega) g hg; omega)) h8 (fun k hk => by have := HKZ.out k hk; omega) (fun g hg => by have := own_lt (e := 0) (z := 0) HK.out (by omega) (by simp; omega) g hg; omega)
        (HN.out.fr hfw (fun g hg hm => by rw [List.mem_singleton] at hm; have := own_lt (e := 0) (z := 0) HN.out (by omega) (by simp; omega) g hg; omega)) h9 HNR.out (fun g hg => by have := own_lt (e := 0) (z := 0) HN.out (by omega) (by simp; omega) g hg; omega)).mono ?_
      rintro e w' ⟨rfl, h1, f⟩
      refine ⟨rfl, ?_, f⟩
      rw [lastC, lastH_snoc2 pre _ hx]
      exact h1)
  generalize fstP _ [] (hdsI ⟨d0, d1, d2, d3⟩ 0 ByteArray.empty hs) = fo at FI
  obtain ⟨i, a, b, s, t, hfo⟩ := fstV_form fo
  rw [hfo] at FI
  have HFI := Lib.hid FI; have HF3 := Lib.hid F3
  have HLT : Hid (w.heap.size ≤ w2.heap.size) := Lib.hid hw2
  clear FI hfo F3 D3 f3 hw3 own_lt e0 e1 e2 e3 e4 CH hw2 hrl
  go_wp2_with fail
  refine HFI.out.mono ?_
  rintro e w4 ⟨f4, rfl⟩
  have F4 : Hid (Fr [] w w4) := Lib.hid (HF3.out.step f4 (fun i hi => .inr (by have := HLT.out; simp at hi; omega)))
  clear f4 HFI
  go_wp2_with fail
  go_ret2
  exact ⟨i, rfl, F4.out.trans (Fr.alloc _ _ _)⟩

end Go.Proofs.YtahfpadaoobkfaaGreatDoor
