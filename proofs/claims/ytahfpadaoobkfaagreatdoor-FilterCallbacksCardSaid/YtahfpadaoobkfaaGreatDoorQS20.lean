/-
  The reference's attestations: pick, Leaf, Node, Seal, Key.
-/
import Derived.Test.YtahfpadaoobkfaaGreatDoorQS11
import Derived.Test.YtahfpadaoobkfaaGreatDoorQS19
import Derived.Test.YtahfpadaoobkfaaGreatDoorQS08
import Derived.Test.YtahfpadaoobkfaaGreatDoorQS03
namespace Go.Proofs.YtahfpadaoobkfaaGreatDoor
open Go.RowKit Go.Lib

set_option maxHeartbeats 400000 in
theorem pick25_c (c n : Int) (w : World) (hc : I64 c) (hn : 1 ≤ n) (hn2 : n ≤ 9223372036854775807) :
    Calls Tryz.prog 30 #[.int .i64 c, .int .i64 n] w fun e w' => e = .returned (.int .i64 (pickI c n)) ∧ w = w' := by
  obtain ⟨hc, hc2⟩ := hc
  by_cases h : c < 0
  · have h1 : 0 ≤ -(c + 1) := by omega
    have e : pickI c n = (-(c + 1)).tmod n := by
      unfold pickI; rw [if_pos h, Int.tmod_eq_emod_of_nonneg h1]
    rw [e]
    go_enter Tryz.func30, Tryz.ntmps30
    go_wp2
    go_ret
    exact ⟨by simp, rfl⟩
  · have e : pickI c n = c % n := by unfold pickI; rw [if_neg h]
    rw [e]
    go_enter Tryz.func30, Tryz.ntmps30
    go_wp2
    go_ret
    exact ⟨rfl, rfl⟩

theorem cat_zero (h : ByteArray) : (⟨#[0]⟩ : ByteArray) ++ h = str (0 :: bts h) := by
  apply ByteArray.ext; simp [str, bts]
theorem cat_oneN (h r : ByteArray) : (⟨#[1]⟩ : ByteArray) ++ h ++ r = str (1 :: (bts h ++ bts r)) := by
  apply ByteArray.ext; simp [str, bts]
set_option maxRecDepth 100000 in
theorem leaf2_c (s : ByteArray) (hs : s.size ≤ 100000000) (w : World) : Calls Tryz.prog 75 #[.string s] w fun e w' => e = .returned (.string (leafM (bts s))) ∧ Fr [] w w' := by
  have CS := Lib.hid (sum2_c (str (0 :: bts s)) (by rw [str_size, List.length_cons, bts_len]; omega) w)
  have HC : Shut ((⟨#[0]⟩ : ByteArray) ++ s = str (0 :: bts s)) := ⟨cat_zero s⟩
  have HM : Shut (shaB (str (0 :: bts s)) = leafM (bts s)) := ⟨rfl⟩
  generalize leafM (bts s) = R at *
  generalize str (0 :: bts s) = S at *
  go_enter Tryz.func75, Tryz.ntmps75
  go_wp2_with fail
  rw [HC.out]
  refine CS.out.mono ?_
  rintro e w1 ⟨rfl, f1⟩
  have HF := Lib.hid f1
  clear f1 CS
  go_wp2_with fail
  go_ret
  exact ⟨by rw [← HM.out]; rfl, HF.out⟩
set_option maxRecDepth 100000 in
theorem node2_c (h r : ByteArray) (hh : h.size ≤ 100000000) (hr : r.size ≤ 100000000) (w : World) : Calls Tryz.prog 74 #[.string h, .string r] w fun e w' => e = .returned (.string (nodeM h r)) ∧ Fr [] w w' := by
  have CS := Lib.hid (sum2_c (str (1 :: (bts h ++ bts r))) (by rw [str_size, List.length_cons, List.length_append, bts_len, bts_len]; omega) w)
  have HC : Shut ((⟨#[1]⟩ : ByteArray) ++ h ++ r = str (1 :: (bts h ++ bts r))) := ⟨cat_oneN h r⟩
  have HM : Shut (shaB (str (1 :: (bts h ++ bts r))) = nodeM h r) := ⟨rfl⟩
  generalize nodeM h r = R at *
  generalize str (1 :: (bts h ++ bts r)) = S at *
  go_enter Tryz.func74, Tryz.ntmps74
  go_wp2_with fail
  rw [HC.out]
  refine CS.out.mono ?_
  rintro e w1 ⟨rfl, f1⟩
  have HF := Lib.hid f1
  clear f1 CS
  go_wp2_with fail
  go_ret
  exact ⟨by rw [← HM.out]; rfl, HF.out⟩
set_option maxRecDepth 100000 in
theorem rseal_c (key s : ByteArray) (hk : key.size ≤ 1000000) (hs : s.size ≤ 1000000) (w : World) : Calls Tryz.prog 34 #[.string key, .string s] w fun e w' => e = .returned (.string (sealM key (bts s))) ∧ Fr [] w w' := by
  have HM : Shut (sealM key (bts s) = nodeM key (leafM (bts s))) := ⟨rfl⟩
  have hz : (leafM (bts s)).size = 32 := shaB_size _
  have CL := Lib.hid (leaf2_c s (by omega) w)
  have CN := Lib.hid fun W => node2_c key (leafM (bts s)) (by omega) (by omega) W
  clear hz
  generalize leafM (bts s) = L at *
  generalize sealM key (bts s) = R at *
  go_enter Tryz.func34, Tryz.ntmps34
  go_wp2_with fail
  refine CL.out.mono ?_
  rintro e w1 ⟨rfl, f1⟩
  have F1 := Lib.hid f1
  clear f1 CL
  go_wp2_with fail
  refine (CN.out _).mono ?_
  rintro e w2 ⟨rfl, f2⟩
  have F2 := Lib.hid (F1.out.trans f2)
  clear f2 CN
  go_wp2_with fail
  go_ret
  exact ⟨by rw [HM.out]; rfl, F2.out⟩

/-- A carrier's key. -/
def keyM (c : Nat) : ByteArray := str (List.replicate 32 (UInt8.ofNat c))
def keyP (c k : Nat) : List UInt8 := List.replicate k (UInt8.ofNat c) ++ List.replicate (32 - k) 0
theorem keyP_set (c k : Nat) (h : k < 32) : (keyP c k).set k (UInt8.ofNat c) = keyP c (k + 1) := by
  unfold keyP
  rw [List.set_append_right _ _ (by simp), List.length_replicate, Nat.sub_self, show 32 - k = (32 - (k + 1)) + 1 by omega, List.replicate_succ, List.set_cons_zero, List.replicate_succ']
  simp
theorem keyP_len (c k : Nat) (h : k ≤ 32) : (keyP c k).length = 32 := by simp [keyP]; omega

end Go.Proofs.YtahfpadaoobkfaaGreatDoor

/-
  The plain law of chapter 25: more keys show an earlier hand; levels fall.
-/
namespace Go.Proofs.YtahfpadaoobkfaaGreatDoor

/-- The level of the first one that is shown. -/
def chkGo (f : Hd × List UInt8 → Bool) : List (Hd × List UInt8) → Int
  | [] => 0
  | x :: l => if f x then x.1.lev else chkGo f l
theorem chkGo_idx (f : Hd × List UInt8 → Bool) : ∀ l : List (Hd × List UInt8), chkGo f l = match l.findIdx? f with
    | none => 0
    | some i => (l.getD i default).1.lev
  | [] => rfl
  | x :: l => by
    rw [chkGo, List.findIdx?_cons]
    cases hf : f x with
    | true => simp
    | false =>
      rw [chkGo_idx f l]
      cases l.findIdx? f <;> simp
theorem chkM_go (keys : List ByteArray) (a : At) : (chkM keys a).1 = chkGo (shownM keys) (hdsA a) := by
  rw [chkGo_idx, chkM]
  cases (hdsA a).findIdx? (shownM keys) <;> rfl
theorem chkGo_le (f : Hd × List UInt8 → Bool) (d : Dl) : ∀ (l : List Hd) (c v : Int) (i : Nat) (b : ByteArray), 0 ≤ v → fmGo c v l = true → 0 ≤ chkGo f (hdsM d i b l) ∧ chkGo f (hdsM d i b l) ≤ v
  | [], _, v, _, _, hv, _ => ⟨Int.le_refl _, hv⟩
  | h :: l, c, v, i, b, hv, hf => by
    have hh := fmGo_le (h :: l) c v hf h List.mem_cons_self
    rw [hdsM, chkGo]
    split
    · exact ⟨hh.2.2.1, hh.2.2.2.1⟩
    · simp only [fmGo, Bool.and_eq_true] at hf
      have := chkGo_le f d l h.car h.lev (i + 1) h.sig hh.2.2.1 hf.2
      omega
theorem chkGo_mono (f g : Hd × List UInt8 → Bool) (hfg : ∀ x, f x = true → g x = true) (d : Dl) : ∀ (l : List Hd) (c v : Int) (i : Nat) (b : ByteArray), 0 ≤ v → fmGo c v l = true → chkGo f (hdsM d i b l) ≤ chkGo g (hdsM d i b l)
  | [], _, _, _, _, _, _ => Int.le_refl _
  | h :: l, c, v, i, b, hv, hf => by
    have hh := fmGo_le (h :: l) c v hf h List.mem_cons_self
    simp only [fmGo, Bool.and_eq_true] at hf
    rw [hdsM, chkGo, chkGo]
    cases h1 : f (h, cntM d i h b) with
    | true => rw [hfg _ h1]; exact Int.le_refl _
    | false =>
      cases h2 : g (h, cntM d i h b) with
      | true =>
        have := chkGo_le f d l h.car h.lev (i + 1) h.sig hh.2.2.1 hf.2
        simpa using this.2
      | false =>
        have := chkGo_mono f g hfg d l h.car h.lev (i + 1) h.sig hh.2.2.1 hf.2
        simpa using this
theorem fmB_parts {a : At} (h : fmB a = true) : dlB a.dial = true ∧ (1 ≤ a.hands.length ∧ a.hands.length ≤ 8) ∧ fmGo (-1) 3 a.hands = true := by
  simp only [fmB, isInB, Bool.and_eq_true, decide_eq_true_eq] at h
  exact ⟨h.1.1, by omega, h.2⟩
/-- A level is at most that of the first hand. -/
theorem chkM_first {a : At} (h : fmB a = true) (keys : List ByteArray) : 0 ≤ (chkM keys a).1 ∧ (chkM keys a).1 ≤ (a.hands.getD 0 default).lev ∧ (a.hands.getD 0 default).lev ≤ 3 := by
  obtain ⟨_, hl, hf⟩ := fmB_parts h
  rw [chkM_go, hdsA]
  obtain ⟨d, l⟩ := a
  cases l with
  | nil => simp at hl
  | cons x l =>
    simp only at hf ⊢
    have hh := fmGo_le (x :: l) (-1) 3 hf x List.mem_cons_self
    have hf' := hf
    simp only [fmGo, Bool.and_eq_true] at hf
    have h1 := chkGo_le (shownM keys) d l x.car x.lev 1 x.sig hh.2.2.1 hf.2
    rw [hdsM, chkGo]
    try simp only [List.getD_cons_zero]
    split
    · exact ⟨hh.2.2.1, Int.le_refl _, hh.2.2.2.1⟩
    · exact ⟨h1.1, h1.2, hh.2.2.2.1⟩
/-- The keys of those carriers that are bits of a number. -/
def knownM (keys : List ByteArray) (s : Nat) : List ByteArray := keys.mapIdx fun i k => if s / 2 ^ i % 2 = 1 then k else ByteArray.empty
theorem knownM_at (keys : List ByteArray) (s : Nat) (c : Int) : keyAt (knownM keys s) c = if s / 2 ^ c.toNat % 2 = 1 then keyAt keys c else ByteArray.empty := by
  unfold keyAt knownM
  rw [List.getD_eq_getElem?_getD, List.getElem?_mapIdx, List.getD_eq_getElem?_getD]
  cases keys[c.toNat]? <;> simp
theorem bit_or (a b i : Nat) (h : a / 2 ^ i % 2 = 1) : (a ||| b) / 2 ^ i % 2 = 1 := by
  have h1 : a.testBit i = true := by rw [Nat.testBit_eq_decide_div_mod_eq]; simpa using h
  have h2 : (a ||| b).testBit i = true := by rw [Nat.testBit_or, h1]; rfl
  rw [Nat.testBit_eq_decide_div_mod_eq] at h2
  simpa using h2
theorem shown_mono (keys : List ByteArray) (s t : Nat) (x : Hd × List UInt8) (h : shownM (knownM keys s) x = true) : shownM (knownM keys (s ||| t)) x = true := by
  unfold shownM rightM at h ⊢
  rw [knownM_at] at h ⊢
  by_cases hb : s / 2 ^ x.1.car.toNat % 2 = 1
  · rw [if_pos hb] at h
    rw [if_pos (bit_or _ _ _ hb)]
    exact h
  · rw [if_neg hb] at h
    simp at h
theorem chkM_mono {a : At} (h : fmB a = true) (keys : List ByteArray) (s t : Nat) : (chkM (knownM keys s) a).1 ≤ (chkM (knownM keys (s ||| t)) a).1 := by
  obtain ⟨_, _, hf⟩ := fmB_parts h
  rw [chkM_go, chkM_go]
  exact chkGo_mono _ _ (shown_mono keys s t) a.dial a.hands (-1) 3 0 _ (by omega) hf

end Go.Proofs.YtahfpadaoobkfaaGreatDoor

/-
  The reference's attestations: keys.
-/
namespace Go.Proofs.YtahfpadaoobkfaaGreatDoor
open Go.RowKit Go.Lib

theorem sl_bytesT {w : World} {b n : Nat} {ty : TypeId} {l : List UInt8} (h : w.heap[b]? = some (.cells (byteCells l).toArray ty (0, 0))) (_hl : l.length = n) (hn : n ≤ 9223372036854775807) : Sl w (.slice (some ⟨b, 0, none⟩) n n) n (byteCells l) :=
  ⟨_, _, rfl, Nat.le_refl _, hn, fun _ => ⟨_, 0, rfl, fun j u hu => by
    rw [Nat.zero_add, cell_of_blk h]
    simpa using hu⟩⟩
theorem byteCells_set (l : List UInt8) (k : Nat) (b : UInt8) : (byteCells l).toArray.setIfInBounds k (.int .u8 (b.toNat : Int)) = (byteCells (l.set k b)).toArray := by
  rw [List.setIfInBounds_toArray, byteCells, byteCells, List.map_set]
set_option maxRecDepth 100000 in
set_option maxHeartbeats 1000000 in
theorem key15_c (c : Nat) (hc : c < 256) (w : World) : Calls Tryz.prog 29 #[.int .i64 c] w fun e w' => e = .returned (.string (keyM c)) ∧ Fr [] w w' := by
  have hmk : ∀ w : World, (Instr.makeSlice 160 (.int .i64 32) (.int .i64 32)).run Tryz.prog w = .ok (.slice (some ⟨w.heap.size, 0, none⟩) 32 32) (w.alloc (.cells (madeCells #[Value.int .u8 0] 32) 5)) := fun w => run_make_row' (P := Tryz.prog) 160 5 (.int .u8 0) 1 Tryz.underlying160 infoBy rfl .i64 .i64 32 (by omega) (by omega) w
  have hz0 : (List.replicate 32 (0 : UInt8)) = keyP c 0 := by simp [keyP]
  rw [made_bytes, hz0] at hmk
  have HW : Hid (IntKind.u8.wrap (c : Int) = c) := Lib.hid (by rw [IntKind.wrap_u8]; omega)
  have hcn : ((UInt8.ofNat c).toNat : Int) = c := by simp; omega
  have HCN := Lib.hid hcn
  have HKM : Hid (keyM c = ⟨(keyP c 32).toArray⟩) := Lib.hid (by simp [keyM, keyP, str])
  clear hz0 hcn
  go_enter Tryz.func29, Tryz.ntmps29
  go_wp2_with fail
  have HF0 := Lib.hid (Fr.alloc [] w (.cells (byteCells (keyP c 0)).toArray 5))
  have HB0 := Lib.hid (heap_alloc_new w (.cells (byteCells (keyP c 0)).toArray 5))
  generalize hg : w.heap.size = g at *
  generalize w.alloc (.cells (byteCells (keyP c 0)).toArray 5) = W0 at *
  clear hmk
  go_loopw [4] (fun iv wr => ∃ (k : Nat), iv = .int .i64 k ∧ k ≤ 32 ∧ Hid (Fr [] w wr) ∧ Hid (wr.heap[g]? = some (.cells (byteCells (keyP c k)).toArray 5 (0, 0)))) (fun iv _ => 32 - (RowKit.intOf iv).toNat)
  case atStart => exact ⟨0, rfl, Nat.zero_le _, HF0, HB0⟩
  case round =>
    obtain ⟨k, rfl, hk, HF, HB⟩ := hrel
    by_cases hlt : k < 32
    · have hkl := keyP_len c k (by omega)
      obtain ⟨ov, ck⟩ : ∃ ov : Value, wr.cell? ⟨g, k, none⟩ = some ov := ⟨.int .u8 ((keyP c k)[k]'(by omega)).toNat, by
        rw [cell_of_blk HB.out]
        simp [byteCells, hkl, hlt]⟩
      have fk := free_of_blk HB.out k
      have hgl := blk_lt HB.out
      clear hkl
      go_wp2_with fail
      refine ⟨⟨k + 1, by go_num, hlt, Lib.hid (HF.out.step (Fr.setCell (fp := [g]) _ _ (by simp)) (fun i hi => .inr (by simp at hi; omega))), Lib.hid ?_⟩, by simp [RowKit.intOf]; omega⟩
      have h1 := heap_setCell_same (i := k) (.int .u8 (c : Int)) HB.out
      rw [h1, ← HCN.out, byteCells_set, keyP_set c k hlt]
    · obtain rfl : k = 32 := by omega
      go_wp2_with (first | ((with_reducible refine wpList_of_wp (o := ⟨some 18, _, _, _, _, _⟩) rfl (fun K hK => ?_)); apply stopD; case _other => exact trivial))
      (refine stopD ?_ ?_; rotate_left; exact trivial)
      have sb := sl_bytesT (ty := 5) HB.out (keyP_len c 32 (by omega)) (by omega)
      refine wp_sl_str (.tmp 17) rfl _ 32 32 (keyP c 32) rfl sb (by omega) (keyP_len c 32 (by omega)) ?_
      refine hK _ _ ?_
      clear hK K sb
      rw [← HKM.out]
      go_wp2_with fail
      go_ret
      exact ⟨rfl, HF.out⟩

theorem infoStrT : (Tryz.prog.info? 9).map (fun i => (i.zero, i.size, i.bytes)) = some (some (.string ⟨#[]⟩), 1, 16) := by kernel_rfl
/-- A row of strings that a call has made since the world w. -/
structure StY (w W : World) (v : Value) (l : List ByteArray) : Prop where
  row : W.ownsRow 0 9 1 v l.length (l.map Value.string)
  young : ∀ g, v.ownBlock = some g → w.heap.size ≤ g
  fr : Fr [] w W
theorem StY.nil (w : World) : StY w w (.slice none 0 0) [] := ⟨World.ownsRow_nil _ _ _ _, (fun g hg => by cases hg), Fr.refl _ _⟩
theorem StY.same {w W W' : World} {v : Value} {l : List ByteArray} (h : StY w W v l) (hf : Fr [] W W') : StY w W' v l := ⟨row_fr h.row hf (by simp), h.young, h.fr.trans hf⟩
theorem StY.val {w W : World} {v : Value} {l : List ByteArray} (h : StY w W v l) : ∃ a c, v = .slice a l.length c := (sl_of_row h.row).val
/-- One string more: append of a slice of one. -/
theorem wp_str_app {w W : World} {o : Oper} {a : Act} {K : Act → World → Prop} {Q : Exit → Act → World → Prop} (s x : Operand) (ho : o.op = .call { callee := .builtin .append, args := #[s, x], argTypes := #[38, 38] })
    (v : Value) (l : List ByteArray) (r : ByteArray) (g : Nat) (hs : a.eval s = v) (hx : a.eval x = .slice (some ⟨g, 0, none⟩) 1 1) (h : StY w W v l) (hg : W.heap[g]? = some (.cells #[.string r] 9 (0, 0))) (hl : l.length ≤ 100000)
    (hK : ∀ v' W', StY w W' v' (l ++ [r]) → K (a.put o.dst v') W') : o.wp Tryz.prog a W K Q := by
  refine wp_append_src s x 38 9 (.string ⟨#[]⟩) 1 16 ho Tryz.underlying38 infoStrT rfl (by decide) v l.length (l.map Value.string) hs h.row (.slice (some ⟨g, 0, none⟩) 1 1) 1 [.string r] hx ⟨.inr ⟨_, 1, rfl, fun j u hu => by rw [add_at, cell_of_blk hg]; simpa using hu⟩⟩ (by simp) (by simp [Value.oneCell']) (by omega) (by omega) ?_
  intro ga cap W' r1 f1 o1
  refine hK _ _ ⟨by simpa using r1, fun g' hg' => ?_, h.fr.step f1 (fun i hi => .inr (h.young i (by simpa using hi)))⟩
  rcases o1 with h1 | h1
  · exact h.young g' (h1 ▸ hg')
  · rw [hg'] at h1
    have := h.fr.size
    simp at h1; omega
def allK : List ByteArray := (List.range 8).map keyM

set_option maxRecDepth 100000 in
set_option maxHeartbeats 1000000 in
theorem all25_c (w : World) : Calls Tryz.prog 7 #[] w fun e w' => ∃ v, e = .returned v ∧ StY w w' v allK := by
  go_enter Tryz.func7, Tryz.ntmps7
  go_wp2_with fail
  go_loopw [1, 2] (fun lv iv wr => ∃ (k : Nat), iv = .int .i64 k ∧ k ≤ 8 ∧ Hid (StY w wr lv ((List.range k).map keyM))) (fun _ iv _ => 8 - (RowKit.intOf iv).toNat)
  case atStart => exact ⟨0, rfl, Nat.zero_le _, Lib.hid (StY.nil w)⟩
  case round =>
    obtain ⟨k, rfl, hk, H⟩ := hrel
    have hv := H.out.val
    simp only [List.length_map, List.length_range] at hv
    obtain ⟨la, lc, rfl⟩ := hv
    by_cases hlt : k < 8
    · have CK := Lib.hid fun W => key15_c k (by omega) W
      have HE : Hid ((List.range (k + 1)).map keyM = (List.range k).map keyM ++ [keyM k]) := Lib.hid (by rw [List.range_succ, List.map_append]; rfl)
      have hle : (k : Int) ≤ 7 := by omega
      generalize keyM k = ky at *
      go_wp2_with fail
      refine (CK.out _).mono ?_
      rintro e w1 ⟨rfl, f1⟩
      have H1 := Lib.hid ((H.out.same f1).same (Fr.alloc [] w1 (.cells #[.string ky] 9)))
      have G1 := Lib.hid (heap_alloc_new w1 (.cells #[.string ky] 9))
      clear f1 CK
      go_wp2_with (first | ((with_reducible refine wpList_of_wp (o := ⟨some 11, _, _, _, _, _⟩) rfl (fun K hK => ?_)); apply stopD; case _other => exact trivial))
      (refine stopD ?_ ?_; rotate_left; exact trivial)
      refine wp_str_app (.tmp 7) (.tmp 10) rfl _ ((List.range k).map keyM) ky w1.heap.size rfl rfl H1.out G1.out (by rw [List.length_map, List.length_range]; omega) ?_
      intro v2 W2 h2
      refine hK _ _ ?_
      clear hK K
      rw [← HE.out] at h2
      have H2 := Lib.hid h2
      clear h2 H1 G1 HE
      go_wp2_with fail
      go_roundw
      case rel => exact ⟨k + 1, by go_num, by omega, H2⟩
      case measure => simp [RowKit.intOf]; omega
    · obtain rfl : k = 8 := by omega
      go_wp2_with fail
      go_ret
      exact ⟨_, rfl, H.out⟩

theorem knownM_take (keys : List ByteArray) (s k : Nat) (h : k < keys.length) : (knownM keys s).take (k + 1) = (knownM keys s).take k ++ [if s / 2 ^ k % 2 = 1 then keys[k] else ByteArray.empty] := by
  have hl : k < (knownM keys s).length := by simpa [knownM] using h
  rw [List.take_succ_eq_append_getElem hl]
  simp [knownM]
theorem shr_bit (s k : Nat) : ((s : Int) / 2 ^ k).tmod 2 = ((s / 2 ^ k % 2 : Nat) : Int) := by
  have e : ((s : Int) / 2 ^ k) = ((s / 2 ^ k : Nat) : Int) := by norm_cast
  rw [e]
  generalize s / 2 ^ k = m
  rw [Int.tmod_eq_emod_of_nonneg (by omega)]
  omega
set_option maxRecDepth 100000 in
set_option maxHeartbeats 1000000 in
theorem known25_c (v : Value) (keys : List ByteArray) (s : Nat) (w : World) (hs : Sl w v keys.length (keys.map Value.string)) (hk : keys.length ≤ 60) (_hs2 : s < 65536) : Calls Tryz.prog 13 #[v, .int .i64 s] w fun e w' => ∃ v', e = .returned v' ∧ StY w w' v' (knownM keys s) := by
  obtain ⟨ka, kc, rfl⟩ := hs.val
  have HS := Lib.hid hs
  clear hs
  go_enter Tryz.func13, Tryz.ntmps13
  go_wp2_with fail
  go_loopw [5, 6] (fun lv iv wr => ∃ (k : Nat), iv = .int .i64 k ∧ k ≤ keys.length ∧ Hid (StY w wr lv ((knownM keys s).take k))) (fun _ iv _ => keys.length - (RowKit.intOf iv).toNat)
  case atStart => exact ⟨0, rfl, Nat.zero_le _, Lib.hid (StY.nil w)⟩
  case round =>
    obtain ⟨k, rfl, hk1, H⟩ := hrel
    have hv := H.out.val
    have hlk : ((knownM keys s).take k).length = k := by simp [knownM]; omega
    rw [hlk] at hv
    obtain ⟨la, lc, rfl⟩ := hv
    by_cases hlt : k < keys.length
    · obtain ⟨kb, ko, rfl, hc⟩ := (HS.out.same H.out.fr).at_ (by omega)
      have ck : wr.cell? ⟨kb, ko + k, none⟩ = some (.string keys[k]) := hc k _ (by simp [hlt])
      have HE := Lib.hid (knownM_take keys s k hlt)
      generalize keys[k] = ky at *
      clear hc
      by_cases hb : s / 2 ^ k % 2 = 1
      · have hbb : (((s : Int) / 2 ^ k).tmod 2 == 1) = true := by rw [shr_bit, hb]; rfl
        rw [if_pos hb] at HE
        clear hb
        go_wp2_with (first | ((with_reducible refine wpList_of_wp (o := ⟨some 24, _, _, _, _, _⟩) rfl (fun K hK => ?_)); apply stopD; case _other => exact trivial))
        (refine stopD ?_ ?_; rotate_left; exact trivial)
        have H1 := Lib.hid (H.out.same (Fr.alloc [] wr (.cells #[.string ky] 9)))
        have G1 := heap_alloc_new wr (.cells #[.string ky] 9)
        refine wp_str_app (.tmp 18) (.tmp 23) rfl _ ((knownM keys s).take k) ky wr.heap.size rfl rfl H1.out G1 (by rw [hlk]; omega) ?_
        intro v2 W2 h2
        refine hK _ _ ?_
        clear hK K
        have H2 : Hid (StY w W2 v2 ((knownM keys s).take (k + 1))) := Lib.hid (by rw [HE.out]; exact h2)
        clear h2 H1 G1 HE
        go_wp2_with fail
        go_roundw
        case rel => exact ⟨k + 1, by go_num, hlt, H2⟩
        case measure => simp [RowKit.intOf]; omega
      · have hbb : (((s : Int) / 2 ^ k).tmod 2 == 1) = false := by
          rw [shr_bit]
          have : s / 2 ^ k % 2 = 0 := by omega
          rw [this]; rfl
        rw [if_neg hb] at HE
        clear hb
        go_wp2_with (first | ((with_reducible refine wpList_of_wp (o := ⟨some 27, _, _, _, _, _⟩) rfl (fun K hK => ?_)); apply stopD; case _other => exact trivial))
        (refine stopD ?_ ?_; rotate_left; exact trivial)
        have H1 := Lib.hid (H.out.same (Fr.alloc [] wr (.cells #[.string ByteArray.empty] 9)))
        have G1 := heap_alloc_new wr (.cells #[.string ByteArray.empty] 9)
        refine wp_str_app (.tmp 25) (.tmp 26) rfl _ ((knownM keys s).take k) ByteArray.empty wr.heap.size rfl rfl H1.out G1 (by rw [hlk]; omega) ?_
        intro v2 W2 h2
        refine hK _ _ ?_
        clear hK K
        have H2 : Hid (StY w W2 v2 ((knownM keys s).take (k + 1))) := Lib.hid (by rw [HE.out]; exact h2)
        clear h2 H1 G1 HE
        go_wp2_with fail
        go_roundw
        case rel => exact ⟨k + 1, by go_num, hlt, H2⟩
        case measure => simp [RowKit.intOf]; omega
    · obtain rfl : k = keys.length := by omega
      go_wp2_with fail
      go_ret
      exact ⟨_, rfl, by have h := H.out; rw [List.take_of_length_le (by simp [knownM])] at h; exact h⟩

end Go.Proofs.YtahfpadaoobkfaaGreatDoor

/-
  The reference's attestations: who knows whom; a dial.
-/
namespace Go.Proofs.YtahfpadaoobkfaaGreatDoor
open Go.RowKit Go.Lib

theorem infoIntT : (Tryz.prog.info? 3).map (fun i => (i.zero, i.size, i.bytes)) = some (some (.int .i64 0), 1, 8) := by kernel_rfl
/-- A row of numbers that a call has made since the world w. -/
structure InY (w W : World) (v : Value) (l : List Int) : Prop where
  row : W.ownsRow 0 3 1 v l.length (l.map (Value.int .i64))
  young : ∀ g, v.ownBlock = some g → w.heap.size ≤ g
  fr : Fr [] w W
theorem InY.nil {w W : World} (hf : Fr [] w W) : InY w W (.slice none 0 0) [] := ⟨World.ownsRow_nil _ _ _ _, (fun g hg => by cases hg), hf⟩
theorem InY.same {w W W' : World} {v : Value} {l : List Int} (h : InY w W v l) (hf : Fr [] W W') : InY w W' v l := ⟨row_fr h.row hf (by simp), h.young, h.fr.trans hf⟩
theorem InY.val {w W : World} {v : Value} {l : List Int} (h : InY w W v l) : ∃ a c, v = .slice a l.length c := (sl_of_row h.row).val
theorem wp_int_app {w W : World} {o : Oper} {a : Act} {K : Act → World → Prop} {Q : Exit → Act → World → Prop} (s x : Operand) (ho : o.op = .call { callee := .builtin .append, args := #[s, x], argTypes := #[23, 23] })
    (v : Value) (l : List Int) (r : Int) (g : Nat) (hs : a.eval s = v) (hx : a.eval x = .slice (some ⟨g, 0, none⟩) 1 1) (h : InY w W v l) (hg : W.heap[g]? = some (.cells #[.int .i64 r] 3 (0, 0))) (hl : l.length ≤ 100000)
    (hK : ∀ v' W', InY w W' v' (l ++ [r]) → K (a.put o.dst v') W') : o.wp Tryz.prog a W K Q := by
  refine wp_append_src s x 23 3 (.int .i64 0) 1 8 ho Tryz.underlying23 infoIntT rfl (by decide) v l.length (l.map (Value.int .i64)) hs h.row (.slice (some ⟨g, 0, none⟩) 1 1) 1 [.int .i64 r] hx ⟨.inr ⟨_, 1, rfl, fun j u hu => by rw [add_at, cell_of_blk hg]; simpa using hu⟩⟩ (by simp) (by simp [Value.oneCell']) (by omega) (by omega) ?_
  intro ga cap W' r1 f1 o1
  refine hK _ _ ⟨by simpa using r1, fun g' hg' => ?_, h.fr.step f1 (fun i hi => .inr (h.young i (by simpa using hi)))⟩
  rcases o1 with h1 | h1
  · exact h.young g' (h1 ▸ hg')
  · rw [hg'] at h1
    have := h.fr.size
    simp at h1; omega

/-- The integers that determine an attestation. -/
def nuC (qs : List Int) (lev : Int) (vc : Value) (ks : List Int) : List Value := qs.map (Value.int .i64) ++ ([.int .i64 lev, vc] ++ ks.map (Value.int .i64))
def knowsM (ks : List Int) : List Int := ks.map fun k => pickI k 256

set_option maxRecDepth 100000 in
set_option maxHeartbeats 1000000 in
theorem knows25_c (q0 q1 q2 q3 lev : Int) (vc : Value) (k0 k1 k2 k3 k4 k5 k6 k7 : Int) (w : World) (hks : ∀ k, k ∈ [k0, k1, k2, k3, k4, k5, k6, k7] → I64 k) :
    Calls Tryz.prog 11 #[.agg #[.int .i64 q0, .int .i64 q1, .int .i64 q2, .int .i64 q3, .int .i64 lev, vc, .int .i64 k0, .int .i64 k1, .int .i64 k2, .int .i64 k3, .int .i64 k4, .int .i64 k5, .int .i64 k6, .int .i64 k7]] w fun e w' => ∃ v, e = .returned v ∧ InY w w' v (knowsM [k0, k1, k2, k3, k4, k5, k6, k7]) := by
  have HK := Lib.hid hks
  obtain ⟨ks, hk⟩ : ∃ ks, ks = [k0, k1, k2, k3, k4, k5, k6, k7] := ⟨_, rfl⟩
  have hkl : ks.length = 8 := by rw [hk]; rfl
  have B0 := heap_alloc_new w (.cells #[.int .i64 q0, .int .i64 q1, .int .i64 q2, .int .i64 q3, .int .i64 lev, vc, .int .i64 k0, .int .i64 k1, .int .i64 k2, .int .i64 k3, .int .i64 k4, .int .i64 k5, .int .i64 k6, .int .i64 k7] 26)
  have HC : Hid (∀ i, (h : i < ks.length) → (w.alloc (.cells #[.int .i64 q0, .int .i64 q1, .int .i64 q2, .int .i64 q3, .int .i64 lev, vc, .int .i64 k0, .int .i64 k1, .int .i64 k2, .int .i64 k3, .int .i64 k4, .int .i64 k5, .int .i64 k6, .int .i64 k7] 26)).cell? ⟨w.heap.size, 6 + i, none⟩ = some (.int .i64 ks[i])) := Lib.hid fun i h => by
    rw [cell_of_blk B0]
    subst hk
    have : i = 0 ∨ i = 1 ∨ i = 2 ∨ i = 3 ∨ i = 4 ∨ i = 5 ∨ i = 6 ∨ i = 7 := by simp at h; omega
    rcases this with rfl | rfl | rfl | rfl | rfl | rfl | rfl | rfl <;> rfl
  have HF0 := Lib.hid (Fr.alloc [] w (.cells #[.int .i64 q0, .int .i64 q1, .int .i64 q2, .int .i64 q3, .int .i64 lev, vc, .int .i64 k0, .int .i64 k1, .int .i64 k2, .int .i64 k3, .int .i64 k4, .int .i64 k5, .int .i64 k6, .int .i64 k7] 26))
  have HR : Hid (knowsM [k0, k1, k2, k3, k4, k5, k6, k7] = ks.map fun k => pickI k 256) := Lib.hid (by rw [← hk]; rfl)
  rw [← hk] at HK
  have hb0 := blk_lt B0
  clear hks B0 hk
  go_enter Tryz.func11, Tryz.ntmps11
  go_wp2_with fail
  generalize hg : w.heap.size = g at *
  generalize World.alloc w _ = W0 at *
  go_loopw [3, 4] (fun lv iv wr => ∃ (k : Nat), iv = .int .i64 k ∧ k ≤ 8 ∧ Hid (InY W0 wr lv ((ks.map fun k => pickI k 256).take k))) (fun _ iv _ => 8 - (RowKit.intOf iv).toNat)
  case atStart => exact ⟨0, rfl, Nat.zero_le _, Lib.hid (InY.nil (Fr.refl _ _))⟩
  case round =>
    obtain ⟨k, rfl, hk, H⟩ := hrel
    have hv := H.out.val
    have hlk : ((ks.map fun k => pickI k 256).take k).length = k := by simp; omega
    rw [hlk] at hv
    obtain ⟨la, lc, rfl⟩ := hv
    by_cases hlt : k < 8
    · have hlt2 : k < ks.length := by omega
      have ck := H.out.fr.cel (HC.out k hlt2) (by simp)
      have CP := Lib.hid fun W => pick25_c ks[k] 256 W (HK.out _ (List.getElem_mem hlt2)) (by omega) (by omega)
      have HE : Hid ((ks.map fun k => pickI k 256).take (k + 1) = (ks.map fun k => pickI k 256).take k ++ [pickI ks[k] 256]) := Lib.hid (by
        rw [List.take_succ_eq_append_getElem (by simpa using hlt2)]; simp)
      generalize ks[k] = z at *
      generalize pickI z 256 = pz at *
      go_wp2_with fail
      refine (CP.out _).mono ?_
      rintro e w1 ⟨rfl, rfl⟩
      go_wp2_with (first | ((with_reducible refine wpList_of_wp (o := ⟨some 16, _, _, _, _, _⟩) rfl (fun K hK => ?_)); apply stopD; case _other => exact trivial))
      (refine stopD ?_ ?_; rotate_left; exact trivial)
      have H1 := Lib.hid (H.out.same (Fr.alloc [] wr (.cells #[.int .i64 pz] 3)))
      have G1 := heap_alloc_new wr (.cells #[.int .i64 pz] 3)
      refine wp_int_app (.tmp 9) (.tmp 15) rfl _ ((ks.map fun k => pickI k 256).take k) pz wr.heap.size rfl rfl H1.out G1 (by rw [hlk]; omega) ?_
      intro v2 W2 h2
      refine hK _ _ ?_
      clear hK K
      have H2 : Hid (InY W0 W2 v2 ((ks.map fun k => pickI k 256).take (k + 1))) := Lib.hid (by rw [HE.out]; exact h2)
      clear h2 H1 G1 HE
      go_wp2_with fail
      go_roundw
      case rel => exact ⟨k + 1, by go_num, by omega, H2⟩
      case measure => simp [RowKit.intOf]; omega
    · obtain rfl : k = 8 := by omega
      go_wp2_with fail
      go_ret
      have h := H.out
      rw [List.take_of_length_le (by simp [hkl])] at h
      exact ⟨_, rfl, by rw [HR.out]; exact ⟨h.row, fun g hg => Nat.le_trans HF0.out.size (h.young g hg), HF0.out.trans h.fr⟩⟩

end Go.Proofs.YtahfpadaoobkfaaGreatDoor

/-
  attest: hands in memory; isIn, Formed.
-/
namespace Go.Proofs.YtahfpadaoobkfaaGreatDoor
open Go.RowKit Go.Lib

def hdC (h : Hd) : List Value := [.int .i64 h.car, .int .i64 h.lev, .string h.sig]
abbrev hdV (h : Hd) : Value := .agg #[.int .i64 h.car, .int .i64 h.lev, .string h.sig]
abbrev atV (d : Dl) (v : Value) : Value := .agg #[.int .i64 d.caller, .int .i64 d.called, .int .i64 d.at_, .int .i64 d.serial, v]
abbrev dlV (d : Dl) : Value := .agg #[.int .i64 d.caller, .int .i64 d.called, .int .i64 d.at_, .int .i64 d.serial]
abbrev HdsAt (w : World) (v : Value) (l : List Hd) : Prop := Sl w v l.length (l.flatMap hdC)
theorem hdRow_cells {w : World} {v : Value} {l : List Hd} (h : HdsAt w v l) (k : Nat) (hk : k < l.length) : ∃ b off cap, v = .slice (some ⟨b, off, none⟩) l.length cap ∧ ∀ j u, (hdC l[k])[j]? = some u → w.cell? ⟨b, off + k * 3 + j, none⟩ = some u := by
  obtain ⟨a, cap, rfl⟩ := h.val
  obtain ⟨b, off, rfl, hc⟩ := h.at_ (by omega)
  refine ⟨b, off, cap, rfl, fun j u hu => ?_⟩
  have hj : j < 3 := by have := (List.getElem?_eq_some_iff.1 hu).1; simpa [hdC] using this
  have := hc (k * 3 + j) u ((flat_get (enc := hdC) (k := 3) (fun _ => rfl) l k hk j hj).trans hu)
  rwa [← Nat.add_assoc] at this

theorem atIsIn_c (n lo hi : Int) (w : World) : Calls Tryz.prog 39 #[.int .i64 n, .int .i64 lo, .int .i64 hi] w fun e w' => e = .returned (.bool (isInB n lo hi)) ∧ w = w' := by
  unfold isInB
  by_cases h : lo ≤ n
  · go_enter Tryz.func39, Tryz.ntmps39
    go_wp2
    go_ret
    exact ⟨by simp [h], rfl⟩
  · go_enter Tryz.func39, Tryz.ntmps39
    go_wp2
    go_ret
    exact ⟨by have h2 : ¬ lo ≤ n := by omega
              simp [h2], rfl⟩

set_option maxRecDepth 100000 in
set_option maxHeartbeats 2000000 in
theorem formed_c (d : Dl) (v : Value) (l : List Hd) (w : World) (hs : HdsAt w v l) (hz : ∀ h, h ∈ l → h.sig.size ≤ 9223372036854775807) : Calls Tryz.prog 40 #[atV d v] w fun e w' => e = .returned (.bool (fmB ⟨d, l⟩)) ∧ Fr [] w w' := by
  obtain ⟨a, cap, rfl⟩ := hs.val
  have hlen := hs.len
  have HS := Lib.hid hs; have HZ := Lib.hid hz
  obtain ⟨d0, d1, d2, d3⟩ := d
  clear hs hz
  go_enter Tryz.func40, Tryz.ntmps40
  go_wp2_with fail
  refine (atIsIn_c _ _ _ _).mono ?_
  rintro e _ ⟨rfl, rfl⟩
  cases h0 : isInB d0 0 99999999 with
  | false =>
    go_wp2_with fail
    go_ret
    exact ⟨by simp [fmB, dlB, h0], (Fr.alloc _ _ _).trans (Fr.alloc _ _ _)⟩
  | true =>
    go_wp2_with fail
    refine (atIsIn_c _ _ _ _).mono ?_
    rintro e _ ⟨rfl, rfl⟩
    cases h1 : isInB d1 0 99999999 with
    | false =>
      go_wp2_with fail
      go_ret
      exact ⟨by simp [fmB, dlB, h1], (Fr.alloc _ _ _).trans (Fr.alloc _ _ _)⟩
    | true =>
      go_wp2_with fail
      refine (atIsIn_c _ _ _ _).mono ?_
      rintro e _ ⟨rfl, rfl⟩
      cases h2 : isInB d2 0 10000000 with
      | false =>
        go_wp2_with fail
        go_ret
        exact ⟨by simp [fmB, dlB, h2], (Fr.alloc _ _ _).trans (Fr.alloc _ _ _)⟩
      | true =>
        go_wp2_with fail
        refine (atIsIn_c _ _ _ _).mono ?_
        rintro e _ ⟨rfl, rfl⟩
        cases h3 : isInB d3 0 1000000 with
        | false =>
          go_wp2_with fail
          go_ret
          exact ⟨by simp [fmB, dlB, h3], (Fr.alloc _ _ _).trans (Fr.alloc _ _ _)⟩
        | true =>
          go_wp2_with fail
          refine (atIsIn_c _ _ _ _).mono ?_
          rintro e _ ⟨rfl, rfl⟩
          cases h4 : isInB (l.length : Int) 1 8 with
          | false =>
            go_wp2_with fail
            go_ret
            exact ⟨by simp [fmB, dlB, h4], (Fr.alloc _ _ _).trans (Fr.alloc _ _ _)⟩
          | true =>
            go_wp2_with fail
            have hfm : fmB ⟨⟨d0, d1, d2, d3⟩, l⟩ = fmGo (-1) 3 l := by simp [fmB, dlB, h0, h1, h2, h3, h4]
            have HM := Lib.hid hfm
            have HF0 : Hid (Fr [] w (((w.alloc (.cells #[.int .i64 d0, .int .i64 d1, .int .i64 d2, .int .i64 d3, .slice a l.length cap] 44)).alloc (.cells #[.int .i64 d0, .int .i64 d1, .int .i64 d2, .int .i64 d3] 41)).alloc (.cells #[.int .i64 (-1), .int .i64 3, .string ⟨#[]⟩] 60))) := Lib.hid (((Fr.alloc _ _ _).trans (Fr.alloc _ _ _)).trans (Fr.alloc _ _ _))
            have HB0 := Lib.hid (heap_alloc_new ((w.alloc (.cells #[.int .i64 d0, .int .i64 d1, .int .i64 d2, .int .i64 d3, .slice a l.length cap] 44)).alloc (.cells #[.int .i64 d0, .int .i64 d1, .int .i64 d2, .int .i64 d3] 41)) (.cells #[.int .i64 (-1), .int .i64 3, .string ⟨#[]⟩] 60))
            clear hfm h0 h1 h2 h3 h4
            simp only [World.size_alloc] at HB0
            generalize hbl : w.heap.size + 1 + 1 = bL at *
            have hbw : w.heap.size ≤ bL := by omega
            generalize ((w.alloc (.cells #[.int .i64 d0, .int .i64 d1, .int .i64 d2, .int .i64 d3, .slice a l.length cap] 44)).alloc (.cells #[.int .i64 d0, .int .i64 d1, .int .i64 d2, .int .i64 d3] 41)).alloc (.cells #[.int .i64 (-1), .int .i64 3, .string ⟨#[]⟩] 60) = W3 at *
            go_loopw [42] (fun iv wr => ∃ (k : Nat) (c v : Int) (s : ByteArray), iv = .int .i64 k ∧ k ≤ l.length ∧ Hid (Fr [] w wr) ∧ Hid (wr.heap[bL]? = some (.cells #[.int .i64 c, .int .i64 v, .string s] 60 (0, 0))) ∧ Hid (fmGo (-1) 3 l = fmGo c v (l.drop k))) (fun iv _ => l.length - (RowKit.intOf iv).toNat)
            case atStart => exact ⟨0, -1, 3, ⟨#[]⟩, rfl, Nat.zero_le _, HF0, HB0, Lib.hid rfl⟩
            case round =>
              obtain ⟨k, c, v, s, rfl, hk, HF, HB, HG⟩ := hrel
              by_cases hlt : k < l.length
              · obtain ⟨gb, go, gc, hv, hc⟩ := hdRow_cells (HS.out.same HF.out) k hlt
                cases hv
                have e0 := hc 0 _ rfl; have e1 := hc 1 _ rfl; have e2 := hc 2 _ rfl
                have HD : Hid (l.drop k = l[k] :: l.drop (k + 1)) := Lib.hid (List.drop_eq_getElem_cons hlt)
                have hz := HZ.out _ (List.getElem_mem hlt)
                generalize l[k] = x at *
                obtain ⟨xc, xv, xs⟩ := x
                simp only [Nat.add_zero] at e0 e1 e2 hz
                have q0 := cell_of_blk HB.out 0; have q1 := cell_of_blk HB.out 1; have q2 := cell_of_blk HB.out 2
                have z0 := free_of_blk HB.out 0; have z1 := free_of_blk HB.out 1; have z2 := free_of_blk HB.out 2
                have hbl2 := blk_lt HB.out
                clear hc
                have HG2 : Hid (fmGo (-1) 3 l = (isInB xc 0 7 && !(xc == c) && isInB xv 0 v && decide (xs.size = 32) && fmGo xc xv (l.drop (k + 1)))) := Lib.hid (by rw [HG.out, HD.out]; rfl)
                clear HG HD
                go_wp2_with fail
                refine (atIsIn_c _ _ _ _).mono ?_
                rintro e _ ⟨rfl, rfl⟩
                cases t0 : isInB xc 0 7 with
                | false =>
                  go_wp2_with fail
                  go_ret
                  exact ⟨by rw [HM.out, HG2.out, t0]; simp, HF.out.trans (Fr.alloc _ _ _)⟩
                | true =>
                  by_cases t1 : xc = c
                  · have t1b : (xc == c) = true := by simpa using t1
                    have T1 := Lib.hid t1b
                    clear t1
                    go_wp2_with fail
                    go_ret
                    exact ⟨by rw [HM.out, HG2.out, T1.out]; simp, HF.out.trans (Fr.alloc _ _ _)⟩
                  · have t1b : (xc == c) = false := by simpa using t1
                    have T1 := Lib.hid t1b
                    clear t1
                    go_wp2_with fail
                    refine (atIsIn_c _ _ _ _).mono ?_
                    rintro e _ ⟨rfl, rfl⟩
                    cases t2 : isInB xv 0 v with
                    | false =>
                      go_wp2_with fail
                      go_ret
                      exact ⟨by rw [HM.out, HG2.out, t2]; simp, HF.out.trans (Fr.alloc _ _ _)⟩
                    | true =>
                      by_cases t3 : xs.size = 32
                      · have t3b : ((xs.size : Int) != 32) = false := by simp; omega
                        have T3 := Lib.hid t3
                        clear t3
                        go_wp2_with fail
                        have B1 := heap_setCell_same (i := 0) (.int .i64 xc) HB.out
                        have B2 := heap_setCell_same (i := 1) (.int .i64 xv) B1
                        have B3 := heap_setCell_same (i := 2) (.string xs) B2
                        have FS : Fr [bL] wr (((wr.setCell ⟨bL, 0, none⟩ (.int .i64 xc)).setCell ⟨bL, 1, none⟩ (.int .i64 xv)).setCell ⟨bL, 2, none⟩ (.string xs)) := ((Fr.setCell _ _ (by simp)).trans (Fr.setCell _ _ (by simp))).trans (Fr.setCell _ _ (by simp))
                        have FA := Fr.alloc [] (((wr.setCell ⟨bL, 0, none⟩ (.int .i64 xc)).setCell ⟨bL, 1, none⟩ (.int .i64 xv)).setCell ⟨bL, 2, none⟩ (.string xs)) (.cells #[.int .i64 xc, .int .i64 xv, .string xs] 60)
                        refine ⟨⟨k + 1, xc, xv, xs, by go_num, hlt, Lib.hid ((HF.out.step FS (fun i hi => .inr (by simp at hi; omega))).trans FA), Lib.hid (FA.keep (by simpa using B3) (by simp)), Lib.hid ?_⟩, by simp [RowKit.intOf]; omega⟩
                        rw [HG2.out, t0, T1.out, t2, T3.out]
                        simp
                      · have t3b : ((xs.size : Int) != 32) = true := by simp; omega
                        have T3 := Lib.hid (decide_eq_false t3)
                        clear t3
                        go_wp2_with fail
                        go_ret
                        exact ⟨by rw [HM.out, HG2.out, T3.out]; simp, HF.out.trans (Fr.alloc _ _ _)⟩
              · obtain rfl : k = l.length := by omega
                go_wp2_with fail
                go_ret
                exact ⟨by rw [HM.out, HG.out, List.drop_length]; rfl, HF.out⟩

end Go.Proofs.YtahfpadaoobkfaaGreatDoor
