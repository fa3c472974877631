/-
  The journal's laws: JournalDamaged, its helpers heads and sized, and its plain law.
-/
import Derived.Test.YtbogljpafpkikaaGreatDoorQLP
import Derived.Test.YtbogljpafpkikaaGreatDoorQL10d
import Derived.Test.YtbogljpafpkikaaGreatDoorQL10q
import Derived.Test.YtbogljpafpkikaaGreatDoorQR2c
namespace Go.Proofs.YtbogljpafpkikaaGreatDoor
open Go.RowKit Go.Lib

/-- The first elements of a slice. -/
theorem Sl.cut2 {w : World} {a : Option Addr} {n c : Nat} {cs : List Value} (h : Sl w (.slice a n c) n cs) (k : Nat) (hk : k ≤ n) : Sl w (.slice a k c) k (cs.take k) := by
  obtain ⟨a', c', he, h1, h2, h3⟩ := h
  cases he
  refine ⟨a, c, rfl, by omega, h2, fun h0 => ?_⟩
  obtain ⟨b, off, rfl, hc⟩ := h3 (by omega)
  refine ⟨b, off, rfl, fun j u hu => hc j u ?_⟩
  rcases Nat.lt_or_ge j k with hj | hj
  · rw [List.getElem?_take_of_lt hj] at hu
    exact hu
  · rw [List.getElem?_eq_none (by simp; omega)] at hu
    cases hu
/-- The strings of which the heads of records are computed. -/
def headsM (h : ByteArray) : List ByteArray → List ByteArray
  | [] => []
  | r :: l => str (2 :: (bts h ++ bts r)) :: headsM (chainM h r) l
theorem headsM_len (l : List ByteArray) : ∀ h, (headsM h l).length = l.length := by
  induction l with
  | nil => intro h; rfl
  | cons r l ih => intro h; rw [headsM, List.length_cons, ih, List.length_cons]
theorem headsM_get (l : List ByteArray) : ∀ (h : ByteArray) (i : Nat) (hi : i < l.length), (headsM h l)[i]'(by rw [headsM_len]; exact hi) = str (2 :: (bts (headOf h (l.take i)) ++ bts l[i])) := by
  induction l with
  | nil => intro h i hi; simp at hi
  | cons r l ih =>
    intro h i hi
    cases i with
    | zero => rfl
    | succ i =>
      have := ih (chainM h r) i (by simpa using hi)
      simp only [headsM, List.getElem_cons_succ, List.take_succ_cons]
      rw [this]
      rfl
theorem headsM_snoc (l : List ByteArray) (r : ByteArray) : ∀ h, headsM h (l ++ [r]) = headsM h l ++ [str (2 :: (bts (headOf h l) ++ bts r))] := by
  induction l with
  | nil => intro h; rfl
  | cons x l ih => intro h; rw [List.cons_append, headsM, ih, headsM]; rfl
theorem headsM_small (l : List ByteArray) : ∀ h : ByteArray, h.size = 32 → (∀ r, r ∈ l → r.size ≤ 65536) → ∀ s, s ∈ headsM h l → s.size ≤ 1000000 := by
  induction l with
  | nil => intro h _ _ s hs; simp [headsM] at hs
  | cons x l ih =>
    intro h hh hz s hs
    rw [headsM] at hs
    rcases List.mem_cons.1 hs with rfl | hs
    · have := hz x (by simp)
      rw [str_size, List.length_cons, List.length_append, bts_len, bts_len]; omega
    · exact ih _ (chainM_size h x) (fun r hr => hz r (by simp [hr])) s hs
/-- One byte of a journal is changed: fewer records, or two strings with one digest. -/
theorem damaged_way {c : UInt8} {L M : List ByteArray} {Z X : List UInt8} {k : Nat} (hX : X = [] ∨ ∃ Y, X = 0 :: Y) (hk : k < encN L) (hne : (encAll head0 L)[k]? ≠ some c) (hs : sizedM L k = false) (he : (encAll head0 L ++ Z).set k c = encAll head0 M ++ X) :
    (c = 0 ∧ M.length < L.length ∧ M = L.take M.length) ∨ ∃ i, ∃ h1 : i < (headsM head0 L).length, ∃ h2 : i < (headsM head0 M).length, (headsM head0 L)[i] ≠ (headsM head0 M)[i] ∧ shaB (headsM head0 L)[i] = shaB (headsM head0 M)[i] := by
  rcases tampered hX L M head0 k (by rw [enc_size]; exact hk) hne hs he with ⟨hc, i, hi, hM⟩ | ⟨i, h1, h2, h3, h4, h5⟩
  · left
    have hl : M.length = i := by rw [hM, List.length_take]; omega
    exact ⟨hc, by omega, by rw [hl]; exact hM⟩
  · right
    refine ⟨i, by rw [headsM_len]; exact h1, by rw [headsM_len]; exact h2, ?_, ?_⟩
    · rw [headsM_get L head0 i h1, headsM_get M head0 i h2, h3]
      intro e
      have e2 := congrArg bts e
      simp only [bts_str, List.cons.injEq, true_and] at e2
      exact h4 (bts_inj (List.append_cancel_left e2))
    · rw [headsM_get L head0 i h1, headsM_get M head0 i h2]
      rw [← h3]
      exact h5
/-- Open where nothing is to fail. -/
theorem opens_any {D : Dk} (ho : D.off = false) (hl : D.left = 0) (hv : D.vis.length = D.dur.length) : (openM D.vis = none ∧ D.opens = (102, none, D)) ∨ ∃ t D', openM D.vis = some t ∧ D.opens = (0, some t, D') := by
  cases h1 : openM D.vis with
  | none => exact .inl ⟨rfl, by simp only [Dk.opens, ho, h1]; rfl⟩
  | some t =>
    right
    obtain ⟨M, X, ht, _, hM, _⟩ := openM_sound h1
    have hsz : t.size ≤ D.dur.length := by
      rw [ht, tpL_size, ← hv, hM, List.length_append]; omega
    by_cases hz : (D.vis.drop t.size).all (· == 0) = true
    · exact ⟨t, D, rfl, by simp only [Dk.opens, ho, h1, hz, if_true]; rfl⟩
    · have w1 := writeU (D := D) (o := (t.size : Int)) (s := zeros (D.vis.length - t.size)) ho hl (by omega) (by
        show _ + (zeros _).size ≤ _
        rw [zeros_size, hv]; omega)
      rw [Int.toNat_natCast] at w1
      have s1 : (D.put t.size (zeros (D.vis.length - t.size))).syncE = 0 := by simp [Dk.syncE, Dk.put, ho]
      have s2 : (D.put t.size (zeros (D.vis.length - t.size))).syncD = (D.put t.size (zeros (D.vis.length - t.size))).sync := by simp [Dk.syncD, Dk.put, ho]
      have hr : D.runs [.write t.size (zeros (D.vis.length - t.size)), .sync] = (0, (D.put t.size (zeros (D.vis.length - t.size))).sync) := by
        simp only [Dk.runs, Dk.doE, Dk.doD, w1.1, w1.2, s1, s2, if_true]
      exact ⟨t, _, rfl, by
        simp only [Dk.opens, ho, h1, hz, hr, if_true]
        rfl⟩
theorem paste_one (l : List UInt8) (k : Nat) (c : UInt8) (h : k < l.length) : paste l k [c] = l.set k c := by
  unfold paste
  rw [List.set_eq_take_append_cons_drop, if_pos h]
  simp

set_option maxRecDepth 100000 in
set_option maxHeartbeats 1000000 in
theorem sized10_c (a : Option Addr) (cap : Nat) (l : List ByteArray) (k : Int) (w : World) (hs : Sl w (.slice a l.length cap) l.length (l.map Value.string)) (hz : ∀ r, r ∈ l → r.size ≤ 65536) (hl : l.length ≤ 10000) (hk : -1000000 ≤ k ∧ k ≤ 1000000) :
    Calls Tryz.prog 24 #[.slice a l.length cap, .int .i64 k] w fun e w' => e = .returned (.bool (sizedM l k)) ∧ Fr [] w w' := by
  have HS := Lib.hid hs; have HZ := Lib.hid hz
  clear hs hz
  go_enter Tryz.func24, Tryz.ntmps24
  go_wp2_with fail
  go_loopw [1, 5] (fun av iv wr => ∃ (j : Nat) (x : Int), iv = .int .i64 j ∧ j ≤ l.length ∧ av = .int .i64 x ∧ -1000000 - (j : Int) * 70000 ≤ x ∧ x ≤ 1000000 ∧ Hid (Fr [] w wr) ∧ Shut (sizedM l k = sizedM (l.drop j) x)) (fun _ iv _ => l.length - (RowKit.intOf iv).toNat)
  case atStart => exact ⟨0, k, rfl, Nat.zero_le _, rfl, by omega, by omega, Lib.hid (Fr.refl _ _), ⟨by rw [List.drop_zero]⟩⟩
  case round =>
    obtain ⟨j, x, rfl, hj, rfl, hx1, hx2, HF, HQ⟩ := hrel
    by_cases hlt : j < l.length
    · obtain ⟨b, off, rfl, hc⟩ := (HS.out.same HF.out).at_ (by omega)
      have ck : wr.cell? ⟨b, off + j, none⟩ = some (.string l[j]) := hc j _ (by simp [hlt])
      have hr := HZ.out _ (List.getElem_mem hlt)
      have CP := Lib.hid (putInt01_c l[j].size hr wr)
      have HD : Shut (sizedM l k = (decide (1 ≤ x ∧ x ≤ (encZ (2 * l[j].size)).length) || sizedM (l.drop (j + 1)) (x - (33 + (encZ (2 * l[j].size)).length + l[j].size : Nat)))) := ⟨by rw [HQ.out, List.drop_eq_getElem_cons hlt, sizedM]⟩
      have hel := encZ_len (2 * l[j].size) (by omega)
      have HSz : Shut ((str (encZ (2 * l[j].size))).size = (encZ (2 * l[j].size)).length) := ⟨str_size _⟩
      clear hc HQ
      generalize l[j] = r at *
      generalize (encZ (2 * r.size)).length = q at *
      generalize str (encZ (2 * r.size)) = ps at *
      have hps := HSz.out
      go_wp2_with fail
      refine CP.out.mono ?_
      rintro e w1 ⟨rfl, f1⟩
      have ck1 := f1.cel ck (by simp)
      have HF1 := Lib.hid (HF.out.trans f1)
      clear f1 CP ck HF
      by_cases h1 : 1 ≤ x
      · by_cases h2 : x ≤ (q : Int)
        · have HE : Shut (sizedM l k = true) := ⟨by rw [HD.out, decide_eq_true ⟨h1, h2⟩]; rfl⟩
          clear ck1
          go_wp2_with fail
          go_ret
          exact ⟨by rw [HE.out]; rfl, HF1.out⟩
        · have HE : Shut (sizedM l k = sizedM (l.drop (j + 1)) (x - (33 + q + r.size : Nat))) := ⟨by rw [HD.out, decide_eq_false (by omega)]; rfl⟩
          go_wp2_with fail
          go_roundw
          case rel => exact ⟨j + 1, x - (33 + q + r.size : Nat), by go_num, hlt, congrArg (Value.int .i64) (by omega), by omega, by omega, HF1, HE⟩
          case measure => simp [RowKit.intOf]; omega
      · have HE : Shut (sizedM l k = sizedM (l.drop (j + 1)) (x - (33 + q + r.size : Nat))) := ⟨by rw [HD.out, decide_eq_false (by omega)]; rfl⟩
        go_wp2_with fail
        go_roundw
        case rel => exact ⟨j + 1, x - (33 + q + r.size : Nat), by go_num, hlt, congrArg (Value.int .i64) (by omega), by omega, by omega, HF1, HE⟩
        case measure => simp [RowKit.intOf]; omega
    · have HE : Shut (sizedM l k = false) := ⟨by rw [HQ.out, List.drop_eq_nil_of_le (by omega)]; rfl⟩
      go_wp2_with fail
      go_ret
      exact ⟨by rw [HE.out]; rfl, HF.out⟩

set_option maxRecDepth 100000 in
set_option maxHeartbeats 1000000 in
theorem heads10_c (a : Option Addr) (cap : Nat) (l : List ByteArray) (w : World) (hs : Sl w (.slice a l.length cap) l.length (l.map Value.string)) (hz : ∀ r, r ∈ l → r.size ≤ 65536) (hl : l.length ≤ 10000) :
    Calls Tryz.prog 25 #[.slice a l.length cap] w fun e w' => ∃ ga gc, e = .returned (.slice ga l.length gc) ∧ Sl w' (.slice ga l.length gc) l.length ((headsM head0 l).map Value.string) ∧ Fr [] w w' := by
  have HS := Lib.hid hs; have HZ := Lib.hid hz
  have CH := Lib.hid (head2_c none 0 [] w (Sl.nil _) (by simp))
  clear hs hz
  go_enter Tryz.func25, Tryz.ntmps25
  go_wp2_with fail
  refine CH.out.mono ?_
  rintro e W1 ⟨rfl, f1⟩
  have HF1 := Lib.hid f1
  clear f1 CH
  go_wp2_with fail
  go_loopw [3, 4, 5] (fun v hv iv wr => ∃ (k : Nat) (ga : Option Addr) (gc : Nat), iv = .int .i64 k ∧ k ≤ l.length ∧ v = .slice ga k gc ∧ hv = .string (headOf head0 (l.take k)) ∧ Hid (wr.ownsRow 0 9 1 (.slice ga k gc) k ((headsM head0 (l.take k)).map Value.string) ∧ (∀ g, (Value.slice ga k gc).ownBlock = some g → w.heap.size ≤ g) ∧ Fr [] w wr)) (fun _ _ iv _ => l.length - (RowKit.intOf iv).toNat)
  case atStart => exact ⟨0, none, 0, rfl, Nat.zero_le _, rfl, rfl, Lib.hid ⟨World.ownsRow_nil _ _ _ _, (fun g hg => by cases hg), HF1.out⟩⟩
  case round =>
    obtain ⟨k, ga, gc, rfl, hk, rfl, rfl, HO⟩ := hrel
    by_cases hlt : k < l.length
    · obtain ⟨b, off, rfl, hc⟩ := HS.out.at_ (by omega)
      have ckw : w.cell? ⟨b, off + k, none⟩ = some (.string l[k]) := hc k _ (by simp [hlt])
      have ck : wr.cell? ⟨b, off + k, none⟩ = some (.string l[k]) := HO.out.2.2.cel ckw (by simp)
      have HCw := Lib.hid ckw
      have hr := HZ.out _ (List.getElem_mem hlt)
      have hhs : (headOf head0 (l.take k)).size = 32 := headOf_size2 _ _ rfl
      have CC := Lib.hid fun W => chain2_c (headOf head0 (l.take k)) l[k] (by omega) (by omega) W
      have HT : Shut (headOf head0 (l.take (k + 1)) = chainM (headOf head0 (l.take k)) l[k]) := ⟨by rw [List.take_succ_eq_append_getElem hlt, headOf_snoc]⟩
      have HT2 : Shut (headsM head0 (l.take (k + 1)) = headsM head0 (l.take k) ++ [str (2 :: (bts (headOf head0 (l.take k)) ++ bts l[k]))]) := ⟨by rw [List.take_succ_eq_append_getElem hlt, headsM_snoc]⟩
      have HC : Shut ((⟨#[2]⟩ : ByteArray) ++ headOf head0 (l.take k) ++ l[k] = str (2 :: (bts (headOf head0 (l.take k)) ++ bts l[k]))) := ⟨cat_two _ _⟩
      clear hc ckw
      generalize l[k] = r at *
      generalize headOf head0 (l.take k) = h at *
      generalize str (2 :: (bts h ++ bts r)) = S at *
      generalize chainM h r = h2 at *
      go_wp2_with (first | ((with_reducible refine wpList_of_wp (o := ⟨some 22, _, _, _, _, _⟩) rfl (fun K hK => ?_)); apply stopD; case _other => exact trivial))
      (refine stopD ?_ ?_; rotate_left; exact trivial)
      rw [HC.out]
      have fa := Fr.alloc [] wr (.cells #[.string S] 9)
      refine wp_append_src (.tmp 13) (.tmp 21) 22 9 (.string ⟨#[]⟩) 1 16 rfl Tryz.underlying22 infoStr rfl (by decide) (.slice ga k gc) k _ rfl (row_fr HO.out.1 fa (by simp)) (.slice (some ⟨wr.heap.size, 0, none⟩) 1 1) 1 [.string S] rfl (src_one wr _ _) (by simp) (by simp [Value.oneCell']) (by omega) (by omega) ?_
      intro gb capb W4 r4 f4 o4
      have F4 : Fr [] w W4 := (HO.out.2.2.trans fa).step f4 (fun i hi => .inr (HO.out.2.1 i (by simpa using hi)))
      have hy : ∀ g, (Value.slice gb (k + 1) capb).ownBlock = some g → w.heap.size ≤ g := fun g hg => by
        rcases o4 with h | h
        · exact HO.out.2.1 g (h ▸ hg)
        · rw [hg] at h
          have := HO.out.2.2.size
          simp at h; omega
      refine hK _ _ ?_
      clear hK K
      have H4 : Hid (W4.ownsRow 0 9 1 (.slice gb (k + 1) capb) (k + 1) ((headsM head0 (l.take (k + 1))).map Value.string) ∧ (∀ g, (Value.slice gb (k + 1) capb).ownBlock = some g → w.heap.size ≤ g) ∧ Fr [] w W4) := Lib.hid ⟨by rw [HT2.out, List.map_append]; exact r4, hy, F4⟩
      clear r4 f4 o4 fa hy F4 ck HO
      have ck := H4.out.2.2.cel HCw.out (by simp)
      go_wp2_with fail
      refine (CC.out _).mono ?_
      rintro e W5 ⟨rfl, f5⟩
      have H5 : Hid (W5.ownsRow 0 9 1 (.slice gb (k + 1) capb) (k + 1) ((headsM head0 (l.take (k + 1))).map Value.string) ∧ (∀ g, (Value.slice gb (k + 1) capb).ownBlock = some g → w.heap.size ≤ g) ∧ Fr [] w W5) := Lib.hid ⟨row_fr H4.out.1 f5 (by simp), H4.out.2.1, H4.out.2.2.trans f5⟩
      clear f5 H4 CC ck
      go_wp2_with fail
      go_roundw
      case rel => exact ⟨k + 1, gb, capb, by go_num, hlt, rfl, by rw [HT.out], H5⟩
      case measure => simp [RowKit.intOf]; omega
    · have hkl : k = l.length := by omega
      have H9 : Hid (∃ ga' gc', Ending.returned (Value.slice ga k gc) = Ending.returned (Value.slice ga' l.length gc') ∧ Sl wr (.slice ga' l.length gc') l.length ((headsM head0 l).map Value.string) ∧ Fr [] w wr) := Lib.hid (by
        subst hkl
        have h1 := sl_of_row HO.out.1
        rw [List.take_length] at h1
        exact ⟨ga, gc, rfl, h1, HO.out.2.2⟩)
      clear HO hkl
      go_wp2_with fail
      go_ret
      exact H9.out

end Go.Proofs.YtbogljpafpkikaaGreatDoor
