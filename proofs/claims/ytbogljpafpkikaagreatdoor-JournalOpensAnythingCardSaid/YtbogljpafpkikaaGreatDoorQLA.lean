/-
  The journal's laws: pick, size, few, same, content.
-/
import Derived.Test.YtbogljpafpkikaaGreatDoorQJn12
namespace Go.Proofs.YtbogljpafpkikaaGreatDoor
open Go.RowKit Go.Lib

def pickJ (c n : Int) : Int := (if c < 0 then -(c + 1) else c) % n
theorem pickJ_bound (c n : Int) (h : 1 ≤ n) : 0 ≤ pickJ c n ∧ pickJ c n < n := ⟨Int.emod_nonneg _ (by omega), Int.emod_lt_of_pos _ (by omega)⟩
set_option maxHeartbeats 400000 in
theorem pick10_c (c n : Int) (w : World) (hc : -9223372036854775808 ≤ c ∧ c ≤ 9223372036854775807) (hn : 1 ≤ n) (hn2 : n ≤ 9223372036854775807) :
    Calls Tryz.prog 12 #[.int .i64 c, .int .i64 n] w fun e w' => e = .returned (.int .i64 (pickJ c n)) ∧ w = w' := by
  obtain ⟨hc, hc2⟩ := hc
  by_cases h : c < 0
  · have h1 : 0 ≤ -(c + 1) := by omega
    have e : pickJ c n = (-(c + 1)).tmod n := by
      unfold pickJ; rw [if_pos h, Int.tmod_eq_emod_of_nonneg h1]
    rw [e]
    go_enter Tryz.func12, Tryz.ntmps12
    go_wp2
    go_ret
    exact ⟨by simp, rfl⟩
  · have e : pickJ c n = c % n := by unfold pickJ; rw [if_neg h]
    rw [e]
    go_enter Tryz.func12, Tryz.ntmps12
    go_wp2
    go_ret
    exact ⟨rfl, rfl⟩
/-- The size of a law's disk. -/
def szJ (n : Int) : Nat := (1 + pickJ n 1500).toNat
theorem szJ_bound (n : Int) : 1 ≤ szJ n ∧ szJ n ≤ 1500 := by have := pickJ_bound n 1500 (by omega); unfold szJ; omega
theorem size10_c (n : Int) (w : World) (hc : -9223372036854775808 ≤ n ∧ n ≤ 9223372036854775807) : Calls Tryz.prog 13 #[.int .i64 n] w fun e w' => e = .returned (.int .i64 (szJ n)) ∧ w = w' := by
  have CP := Lib.hid (pick10_c n 1500 w hc (by omega) (by omega))
  have hb := pickJ_bound n 1500 (by omega)
  have hs : Shut ((szJ n : Int) = 1 + pickJ n 1500) := ⟨by unfold szJ; omega⟩
  generalize pickJ n 1500 = p at *
  go_enter Tryz.func13, Tryz.ntmps13
  go_wp2_with fail
  refine CP.out.mono ?_
  rintro e w1 ⟨rfl, rfl⟩
  go_wp2_with fail
  go_ret
  exact ⟨by rw [hs.out]; rfl, rfl⟩

set_option maxRecDepth 100000 in
theorem content10_c (db : Nat) (fp : List Nat) (D : Dk) (w : World) (h : DkA w db fp D) (ho : D.off = false) : Calls Tryz.prog 20 #[.pointer (some ⟨db, 0, none⟩)] w fun e w' => e = .returned (.string (str D.vis)) ∧ w = w' := by
  have hok : D.Ok := by obtain ⟨_, _, _, hd, _⟩ := h; exact hd.ok
  have hm := hok.max
  have CS := Lib.hid (size_dk db fp D w h)
  have CR := read_dk db fp D 0 D.dur.length w h (by omega) (by omega) (by omega) (by omega)
  have hin : insB D.dur.length 0 D.dur.length = true := by simp [insB]
  rw [show D.readE 0 D.dur.length = 0 by simp [Dk.readE, ho, hin], show D.readS 0 D.dur.length = D.vis by simp only [Dk.readS, ho, hin, if_true, Bool.false_eq_true, if_false]; simp [← hok.len]] at CR
  have HR := Lib.hid CR
  clear h hok CR hin ho
  go_enter Tryz.func20, Tryz.ntmps20
  go_wp2_with fail
  refine CS.out.mono ?_
  rintro e w1 ⟨rfl, rfl⟩
  go_wp2_with fail
  refine HR.out.mono ?_
  rintro e w1 ⟨rfl, rfl⟩
  go_wp2_with fail
  go_ret
  exact ⟨rfl, rfl⟩

def cutM (s : ByteArray) : ByteArray := s.extract 0 (min s.size 100)
/-- At most six strings, cut. -/
def fewM (l : List ByteArray) : List ByteArray := (l.take 6).map cutM
theorem cutM_size (s : ByteArray) : (cutM s).size ≤ 100 := by simp [cutM]; omega
theorem fewM_size {l : List ByteArray} {r : ByteArray} (h : r ∈ fewM l) : r.size ≤ 100 := by
  simp only [fewM, List.mem_map] at h
  obtain ⟨s, _, rfl⟩ := h
  exact cutM_size s
theorem fewM_len (l : List ByteArray) : (fewM l).length ≤ 6 := by simp [fewM]; omega
theorem cell_lt {w : World} {b i : Nat} {v : Value} (h : w.cell? ⟨b, i, none⟩ = some v) : b < w.heap.size := by
  rcases Nat.lt_or_ge b w.heap.size with h' | h'
  · exact h'
  · simp [World.cell?, Array.getElem?_eq_none h'] at h

set_option maxRecDepth 100000 in
set_option maxHeartbeats 1000000 in
theorem few10_c (a : Option Addr) (cap : Nat) (l : List ByteArray) (w : World) (hs : Sl w (.slice a l.length cap) l.length (l.map Value.string)) (hz : ∀ s, s ∈ l → s.size ≤ 9223372036854775807) :
    Calls Tryz.prog 9 #[.slice a l.length cap] w fun e w' => ∃ v, e = .returned v ∧ w'.ownsRow 0 9 1 v (fewM l).length ((fewM l).map Value.string) ∧ (∀ g, v.ownBlock = some g → w.heap.size ≤ g) ∧ Fr [] w w' := by
  have hlen := hs.len
  have HS := Lib.hid hs; have HZ := Lib.hid hz
  clear hs hz
  go_enter Tryz.func9, Tryz.ntmps9
  go_wp2_with fail
  go_loopw [3, 4] (fun v i wr => ∃ (k : Nat), i = .int .i64 k ∧ k ≤ l.length ∧ k ≤ 6 ∧ Hid (Fr [] w wr ∧ wr.ownsRow 0 9 1 v k (((l.take k).map cutM).map Value.string) ∧ ∀ g, v.ownBlock = some g → w.heap.size ≤ g)) (fun _ i _ => 6 - (RowKit.intOf i).toNat)
  case atStart => exact ⟨0, rfl, Nat.zero_le _, Nat.zero_le _, Lib.hid ⟨Fr.refl _ _, World.ownsRow_nil _ _ _ _, fun g hg => by cases hg⟩⟩
  case round =>
    obtain ⟨k, rfl, hk, hk6, H⟩ := hrel
    by_cases hlt : k < l.length
    · by_cases hl6 : k < 6
      · obtain ⟨b, off, rfl, hc⟩ := HS.out.at_ (by omega)
        have ck : w.cell? ⟨b, off + k, none⟩ = some (.string l[k]) := hc k _ (by simp [hlt])
        have hbw := cell_lt ck
        have hsz := HZ.out _ (List.getElem_mem hlt)
        have HT : Shut ((l.take (k + 1)).map cutM = (l.take k).map cutM ++ [cutM l[k]]) := ⟨by rw [List.take_succ_eq_append_getElem hlt, List.map_append]; rfl⟩
        have HC : Shut (cutM l[k] = l[k].extract 0 (min l[k].size 100)) := ⟨rfl⟩
        clear hc
        generalize l[k] = s at *
        generalize cutM s = cs at *
        obtain ⟨va, vn, vp, rfl⟩ : ∃ va vn vp, u3 = .slice va vn vp := by
          rcases H.out.2.1.2 with ⟨rfl, _⟩ | ⟨g, cap, cur, rfl, _⟩
          · exact ⟨_, _, _, rfl⟩
          · exact ⟨_, _, _, rfl⟩
        have hbv : b ∉ (Value.slice va vn vp).ownBlock.toList := fun hm => by have := H.out.2.2 b (by simpa using hm); omega
        go_wp2_with fail
        replace ck := H.out.1.cel ck (by simp)
        refine reg_tree (Fr (Value.slice va vn vp).ownBlock.toList wr) 14 (.take 0 (.take 1 (.take 2 (.take 3 (.take 4 (.take 5 (.take 6 (.take 7 (.take 8 (.take 9 (.take 10 (.take 11 (.one 12 (.one 13 (.one 14 .nil))))))))))))))) (by kernel_rfl) (by kernel_rfl) (by kernel_rfl) rfl ?_
        have F0 : Fr [] wr wr.drew := Fr.drew _ _
        generalize wr.drew = WC at F0 ⊢
        have S0 : Fr (Value.slice va vn vp).ownBlock.toList wr WC := F0.mono (by simp)
        iterate 10 (refine tree_take (v := ?_) rfl rfl rfl S0 (fun w hS => ?_) ?_; rotate_left; (focus (have c2 := hS.cel ck hbv; clear hS; go_simp; rfl)); simp only [List.setIfInBounds_toArray, List.set_cons_succ, List.set_cons_zero])
        iterate 1 (refine tree_take (v := ?_) rfl rfl rfl S0 (fun w hS => ?_) ?_; rotate_left; (focus (have c2 := hS.cel ck hbv; clear hS; go_simp; rfl)); simp only [List.setIfInBounds_toArray, List.set_cons_succ, List.set_cons_zero])
        iterate 1 (refine tree_take (v := ?_) rfl rfl rfl S0 (fun w hS => ?_) ?_; rotate_left; (focus (have c2 := hS.cel ck hbv; clear hS; go_simp; rw [if_pos ⟨by omega, by omega⟩, show (min (s.size : Int) 100).toNat = min s.size 100 by omega, ← HC.out])); simp only [List.setIfInBounds_toArray, List.set_cons_succ, List.set_cons_zero])
        refine tree_one rfl rfl (fun K hK => ?_)
        go_simp
        have fa := Fr.alloc [] WC (.cells #[.string cs] 9)
        have s1 := src_one WC (.string cs) 9
        refine hK _ _ (S0.trans (Fr.alloc _ _ _)) ?_
        have S1 := S0.trans (Fr.alloc (Value.slice va vn vp).ownBlock.toList WC (.cells #[.string cs] 9))
        have F1 := F0.trans fa
        have hrow := row_fr H.out.2.1 F1 (by simp)
        clear hK K fa
        generalize WC.alloc (.cells #[.string cs] 9) = WD at *
        try simp only [Act.put, List.setIfInBounds_toArray, List.set_cons_succ, List.set_cons_zero]
        refine tree_one rfl rfl (fun K hK => ?_)
        refine wp_append_src (.tmp 15) (.tmp 27) 22 9 _ 1 16 rfl Tryz.underlying22 infoStr rfl (by decide) (.slice va vn vp) k _ rfl hrow (.slice (some ⟨WC.heap.size, 0, none⟩) 1 1) 1 [.string cs] rfl s1 (by simp) (by simp [Value.oneCell']) (by omega) (by omega) ?_
        intro ga cap2 W4 r4 f4 o4
        refine hK _ _ (S1.trans f4) ?_
        clear hK K
        have H4 : Hid (Fr [] w W4 ∧ W4.ownsRow 0 9 1 (.slice ga (k + 1) cap2) (k + 1) (((l.take (k + 1)).map cutM).map Value.string) ∧ ∀ g, (Value.slice ga (k + 1) cap2).ownBlock = some g → w.heap.size ≤ g) := Lib.hid ⟨(H.out.1.trans F1).step f4 (fun i hi => .inr (H.out.2.2 i (by simpa using hi))), by rw [HT.out, List.map_append]; exact r4, fun g hg => by
          rcases o4 with h | h
          · exact H.out.2.2 g (h ▸ hg)
          · rw [hg] at h
            have := H.out.1.size
            have := F1.size
            simp at h; omega⟩
        clear r4 f4 o4 s1 hrow S1 F1 S0 F0
        try simp only [Act.put, List.setIfInBounds_toArray]
        refine tree_last rfl rfl (fun K hK => ?_)
        go_simp
        try go_upon
        try go_simp
        refine hK _ _ ?_
        clear hK K
        refine noPanicN ?_
        go_wp2_with fail
        go_roundw
        case rel => exact ⟨k + 1, by go_num, hlt, by omega, H4⟩
        case measure => simp [RowKit.intOf]; omega
      · have hk6' : k = 6 := by omega
        go_wp2_with fail
        go_ret
        have e : (fewM l).length = k := by simp [fewM]; omega
        refine ⟨_, rfl, ?_, H.out.2.2, H.out.1⟩
        rw [e]
        have := H.out.2.1
        rw [hk6'] at this ⊢
        exact this
    · go_wp2_with fail
      go_ret
      have e : (fewM l).length = k := by simp [fewM]; omega
      refine ⟨_, rfl, ?_, H.out.2.2, H.out.1⟩
      rw [e]
      have := H.out.2.1
      rw [show l.take k = l.take 6 by rw [List.take_of_length_le (by omega), List.take_of_length_le (by omega)]] at this
      exact this

end Go.Proofs.YtbogljpafpkikaaGreatDoor

/-
  The journal's laws: same.
-/
namespace Go.Proofs.YtbogljpafpkikaaGreatDoor
open Go.RowKit Go.Lib

theorem same_take {l m : List ByteArray} (h : l.length = m.length) (hk : ∀ j, (h1 : j < l.length) → l[j] = m[j]'(h ▸ h1)) : l = m := List.ext_getElem h (fun j h1 _ => hk j h1)

set_option maxRecDepth 100000 in
set_option maxHeartbeats 1000000 in
theorem same10_c (a1 a2 : Option Addr) (c1 c2 : Nat) (l m : List ByteArray) (w : World) (h1 : Sl w (.slice a1 l.length c1) l.length (l.map Value.string)) (h2 : Sl w (.slice a2 m.length c2) m.length (m.map Value.string)) :
    Calls Tryz.prog 16 #[.slice a1 l.length c1, .slice a2 m.length c2] w fun e w' => e = .returned (.bool (decide (l = m))) ∧ Fr [] w w' := by
  have hl1 := h1.len
  have hl2 := h2.len
  have H1 := Lib.hid h1; have H2 := Lib.hid h2
  clear h1 h2
  by_cases hlen : l.length = m.length
  · have HLen : Shut (l.length = m.length) := ⟨hlen⟩
    have hb : ((l.length : Int) != (m.length : Int)) = false := by simp [hlen]
    clear hlen
    go_enter Tryz.func16, Tryz.ntmps16
    go_wp2_with fail
    go_loopw [5] (fun i wr => ∃ (k : Nat), i = .int .i64 k ∧ k ≤ l.length ∧ Hid (Fr [] w wr ∧ ∀ j, (h : j < l.length) → j < k → l[j] = m[j]'(HLen.out ▸ h))) (fun i _ => l.length - (RowKit.intOf i).toNat)
    case atStart => exact ⟨0, rfl, Nat.zero_le _, Lib.hid ⟨Fr.refl _ _, fun j _ h => absurd h (by omega)⟩⟩
    case round =>
      obtain ⟨k, rfl, hk, H⟩ := hrel
      by_cases hlt : k < l.length
      · have hlt2 : k < m.length := by have := HLen.out; omega
        obtain ⟨b1, o1, rfl, hc1⟩ := (H1.out.same H.out.1).at_ (by omega)
        obtain ⟨b2, o2, rfl, hc2⟩ := (H2.out.same H.out.1).at_ (by omega)
        have k1 : wr.cell? ⟨b1, o1 + k, none⟩ = some (.string l[k]) := hc1 k _ (by simp [hlt])
        have k2 : wr.cell? ⟨b2, o2 + k, none⟩ = some (.string m[k]) := hc2 k _ (by simp [hlt2])
        have HNX : Hid (l[k] = m[k] → ∀ j, (h : j < l.length) → j < k + 1 → l[j] = m[j]'(HLen.out ▸ h)) := Lib.hid fun e j h hj => by
          rcases Nat.lt_or_ge j k with h' | h'
          · exact H.out.2 j h h'
          · obtain rfl : j = k := by omega
            exact e
        have HNE : Hid (l[k] ≠ m[k] → l ≠ m) := Lib.hid fun hne e => by subst e; exact hne rfl
        clear hc1 hc2
        generalize l[k] = s at *
        generalize m[k] = s2 at *
        go_wp2_with fail
        refine reg_tree (Fr [] wr) 8 (.take 0 (.take 1 (.take 2 (.take 3 (.take 4 (.take 5 (.take 6 (.take 7 (.one 8 .nil))))))))) (by kernel_rfl) (by kernel_rfl) (by kernel_rfl) rfl ?_
        have F0 : Fr [] wr wr.drew := Fr.drew _ _
        generalize wr.drew = WC at F0 ⊢
        iterate 8 (refine tree_take (v := ?_) rfl rfl rfl F0 (fun w hS => ?_) ?_; rotate_left; (focus (have e1 := hS.cel k1 (by simp); have e2 := hS.cel k2 (by simp); clear hS; go_simp; rfl)); simp only [List.setIfInBounds_toArray, List.set_cons_succ, List.set_cons_zero])
        refine tree_last rfl rfl (fun K hK => ?_)
        go_simp
        try go_upon
        try go_simp
        refine hK _ _ ?_
        clear hK K
        refine noPanicN ?_
        have HF := Lib.hid (H.out.1.trans F0)
        by_cases he : s = s2
        · have HA := Lib.hid (HNX.out he)
          have hb2 : (!s.toList == s2.toList) = false := by rw [he, beq_self_eq_true]; rfl
          rw [hb2]
          clear HNX HNE F0 k1 k2 H he hb2
          go_wp2_with fail
          go_roundw
          case rel => exact ⟨k + 1, by go_num, hlt, Lib.hid ⟨HF.out, HA.out⟩⟩
          case measure => simp [RowKit.intOf]; omega
        · have HA := Lib.hid (HNE.out he)
          have hb2 : (!s.toList == s2.toList) = true := by
            rw [Bool.not_eq_true', beq_eq_false_iff_ne, ByteArray.toList_eq, ByteArray.toList_eq]
            intro e; apply he; exact ByteArray.ext (Array.ext' e)
          rw [hb2]
          clear HNX HNE F0 k1 k2 H he hb2
          go_wp2_with fail
          go_ret
          exact ⟨by rw [decide_eq_false HA.out]; rfl, HF.out⟩
      · have he : k = l.length := by omega
        have HE : Hid (l = m) := Lib.hid (same_take HLen.out fun j h => H.out.2 j h (by omega))
        go_wp2_with fail
        go_ret
        exact ⟨by rw [decide_eq_true HE.out]; rfl, H.out.1⟩
  · have hb : ((l.length : Int) != (m.length : Int)) = true := by simp; omega
    have HE : Hid (l ≠ m) := Lib.hid fun e => hlen (by rw [e])
    clear hlen
    go_enter Tryz.func16, Tryz.ntmps16
    go_wp2_with fail
    go_ret
    exact ⟨by rw [decide_eq_false HE.out]; rfl, Fr.refl _ _⟩

end Go.Proofs.YtbogljpafpkikaaGreatDoor

/-
  The journal's laws, the plain part: a clean disk; what Append and Open do on it.
-/
namespace Go.Proofs.YtbogljpafpkikaaGreatDoor
open Go.RowKit Go.Lib

/-- A disk that holds the records L, and nothing is pending. -/
structure Clean (D : Dk) (L : List ByteArray) : Prop where
  off : D.off = false
  left : D.left = 0
  dur : D.dur = D.vis
  pend : D.pend = []
  vis : ∃ z, D.vis = encAll head0 L ++ List.replicate z 0
  small : ∀ r, r ∈ L → r.size ≤ 65536
theorem clean_new (n : Nat) : Clean (Dk.new n) [] := ⟨rfl, rfl, rfl, rfl, ⟨n, rfl⟩, by simp⟩
theorem tpL_size (L : List ByteArray) : (tp0.adds L).size = (encAll head0 L).length := by rw [adds_size]; simp [tp0]
theorem tpL_head (L : List ByteArray) : (tp0.adds L).head = headOf head0 L := adds_head L tp0
theorem tpL_recs (L : List ByteArray) : (tp0.adds L).recs = L := by rw [adds_recs]; rfl
theorem head0_size : head0.size = 32 := rfl
theorem enc_L (L l : List ByteArray) : encAll head0 (L ++ l) = encAll head0 L ++ encAll (tp0.adds L).head l := by rw [encAll_append, tpL_head]

theorem opens_of {D : Dk} {L : List ByteArray} {z : Nat} (ho : D.off = false) (hv : D.vis = encAll head0 L ++ List.replicate z 0) (hs : ∀ r, r ∈ L → r.size ≤ 65536) : D.opens = (0, some (tp0.adds L), D) := by
  have h1 : openM D.vis = some (tp0.adds L) := by rw [hv]; exact openM_enc z L hs
  have h2 : (D.vis.drop (tp0.adds L).size).all (· == 0) = true := by
    rw [hv, tpL_size, List.drop_left]
    simp
  simp only [Dk.opens, ho, h1, h2, if_true]
  rfl
theorem clean_open {D : Dk} {L : List ByteArray} (h : Clean D L) : D.opens = (0, some (tp0.adds L), D) := by
  obtain ⟨z, hv⟩ := h.vis
  exact opens_of h.off hv h.small

theorem writeU {D : Dk} (h : D.off = false) (h2 : D.left = 0) {o : Int} {s : ByteArray} (h0 : 0 ≤ o) (hs : o.toNat + s.size ≤ D.dur.length) : D.writeE o s = 0 ∧ D.writeD o s = D.put o.toNat s := by
  have hi : insB D.dur.length o s.size = true := by simp [insB]; omega
  have hu : (D.put o.toNat s).use = D.put o.toNat s := by simp [Dk.use, Dk.put, h2]
  exact ⟨by simp [Dk.writeE, h, hi], by simp [Dk.writeD, h, hi, Dk.write, hu]⟩
theorem paste_two (a E : List UInt8) (y : UInt8) (z : Nat) (h : E.length + 1 ≤ z) : paste (paste (a ++ List.replicate z 0) (a.length + 1) E) a.length [y] = a ++ (y :: E) ++ List.replicate (z - (E.length + 1)) 0 := by
  obtain ⟨m, rfl⟩ : ∃ m, z = m + 1 := ⟨z - 1, by omega⟩
  have e1 : (a ++ List.replicate (m + 1) (0 : UInt8)).take (a.length + 1) = a ++ [0] := by
    rw [List.replicate_succ, List.take_append, List.take_of_length_le (by omega)]
    simp
  have e2 : (a ++ List.replicate (m + 1) (0 : UInt8)).drop (a.length + 1 + E.length) = List.replicate (m + 1 - (E.length + 1)) 0 := by
    rw [List.drop_append, List.drop_eq_nil_of_le (by omega), List.nil_append, List.drop_replicate]
    congr 1
    omega
  have e3 : paste (a ++ List.replicate (m + 1) (0 : UInt8)) (a.length + 1) E = a ++ 0 :: (E ++ List.replicate (m + 1 - (E.length + 1)) 0) := by
    unfold paste
    rw [e1, e2]
    simp
  rw [e3]
  unfold paste
  rw [List.take_left, List.length_singleton, ← List.drop_drop, List.drop_left]
  simp
theorem clean_fit {D : Dk} {L : List ByteArray} (h : Clean D L) (l : List ByteArray) (hl : l.any longB = false) (hfit : (encAll head0 (L ++ l)).length ≤ D.dur.length) :
    ∃ D', D.apps (tp0.adds L) false l = (0, tp0.adds (L ++ l), false, D') ∧ Clean D' (L ++ l) ∧ D'.dur.length = D.dur.length := by
  have hsm : ∀ r, r ∈ L ++ l → r.size ≤ 65536 := fun r hr => by
    rcases List.mem_append.1 hr with h' | h'
    · exact h.small r h'
    · exact not_long hl h'
  have hle := hfit
  rw [enc_L, List.length_append] at hle
  have hsz := tpL_size L
  by_cases h0 : l = []
  · subst h0
    refine ⟨D, ?_, by rw [List.append_nil]; exact h, rfl⟩
    rw [List.append_nil]
    simp only [Dk.apps, hl, Bool.or_self, Bool.false_eq_true, if_false, if_true]
    rw [if_neg (by simp [encAll]; omega)]
  · obtain ⟨z, hv⟩ := h.vis
    obtain ⟨y, E, hE⟩ : ∃ y E, encAll (tp0.adds L).head l = y :: E := by
      cases hE : encAll (tp0.adds L).head l with
      | nil =>
        have := encAll_len l (tp0.adds L).head
        rw [hE] at this
        exact absurd (List.eq_nil_of_length_eq_zero (by simpa using this)) h0
      | cons y E => exact ⟨y, E, rfl⟩
    rw [hE, List.length_cons] at hle
    have hdl : D.dur.length = (encAll head0 L).length + z := by rw [h.dur, hv]; simp
    have w1 := writeU (D := D) (o := ((tp0.adds L).size : Int) + 1) (s := str E) h.off h.left (by omega) (by rw [str_size]; omega)
    have w2 := writeU (D := (D.put (((tp0.adds L).size : Int) + 1).toNat (str E)).sync) (o := ((tp0.adds L).size : Int)) (s := str [y]) h.off h.left (by omega) (by
      rw [str_size]
      simp only [Dk.sync, Dk.put]
      rw [paste_length _ _ _ (by rw [hv]; simp [str]; omega), hv]
      simp; omega)
    have hE2 : (D.apps (tp0.adds L) false l) = (0, (tp0.adds L).adds l, false, (((D.put (((tp0.adds L).size : Int) + 1).toNat (str E)).sync).put (tp0.adds L).size (str [y])).sync) := by
      have s1 : (D.put (((tp0.adds L).size : Int) + 1).toNat (str E)).syncE = 0 := by simp [Dk.syncE, Dk.put, h.off]
      have s2 : (D.put (((tp0.adds L).size : Int) + 1).toNat (str E)).syncD = (D.put (((tp0.adds L).size : Int) + 1).toNat (str E)).sync := by simp [Dk.syncD, Dk.put, h.off]
      have s3 : (((D.put (((tp0.adds L).size : Int) + 1).toNat (str E)).sync).put (tp0.adds L).size (str [y])).syncE = 0 := by simp [Dk.syncE, Dk.put, Dk.sync, h.off]
      have s4 : (((D.put (((tp0.adds L).size : Int) + 1).toNat (str E)).sync).put (tp0.adds L).size (str [y])).syncD = (((D.put (((tp0.adds L).size : Int) + 1).toNat (str E)).sync).put (tp0.adds L).size (str [y])).sync := by simp [Dk.syncD, Dk.put, Dk.sync, h.off]
      rw [Int.toNat_natCast] at w2
      have hr : D.runs [.write (((tp0.adds L).size : Int) + 1) (str E), .sync, .write (tp0.adds L).size (str [y]), .sync] = (0, (((D.put (((tp0.adds L).size : Int) + 1).toNat (str E)).sync).put (tp0.adds L).size (str [y])).sync) := by
        simp only [Dk.runs, Dk.doE, Dk.doD, w1.1, w1.2, s1, s2, w2.1, w2.2, s3, s4, if_true]
      simp only [Dk.apps, hl, Bool.or_self, Bool.false_eq_true, if_false, hE, List.drop_succ_cons, List.drop_zero, List.take_succ_cons, List.take_zero, hr, if_true]
      rw [if_neg (by simp; omega), if_neg h0]
    have hvis : paste (paste D.vis (((tp0.adds L).size : Int) + 1).toNat E) (tp0.adds L).size [y] = encAll head0 (L ++ l) ++ List.replicate (z - (E.length + 1)) 0 := by
      rw [hv, hsz, show (((encAll head0 L).length : Int) + 1).toNat = (encAll head0 L).length + 1 by omega, paste_two _ _ _ _ (by omega), enc_L, hE]
    refine ⟨_, by rw [hE2, ← adds_append], ⟨?_, ?_, rfl, rfl, ⟨z - (E.length + 1), ?_⟩, hsm⟩, ?_⟩
    · simp [Dk.sync, Dk.put, h.off]
    · simp [Dk.sync, Dk.put, h.left]
    · exact hvis
    · show (paste (paste D.vis (((tp0.adds L).size : Int) + 1).toNat E) (tp0.adds L).size [y]).length = _
      rw [hvis, List.length_append, List.length_replicate, enc_L, hE, hdl]
      simp; omega
theorem clean_full {D : Dk} {L : List ByteArray} (_h : Clean D L) (l : List ByteArray) (hl : l.any longB = false) (hfull : D.dur.length < (encAll head0 (L ++ l)).length) : D.apps (tp0.adds L) false l = (101, tp0.adds L, false, D) := by
  rw [enc_L, List.length_append] at hfull
  have hsz := tpL_size L
  simp only [Dk.apps, hl, Bool.or_self, Bool.false_eq_true, if_false]
  rw [if_pos (by omega)]

end Go.Proofs.YtbogljpafpkikaaGreatDoor

/-
  The journal's laws: a disk and its journals, made since the world w0.
-/
namespace Go.Proofs.YtbogljpafpkikaaGreatDoor
open Go.RowKit Go.Lib

/-- A journal: its block, its records' row, its records, is it broken. -/
structure Jb where
  b : Nat
  vr : Value
  t : Tp
  br : Bool
/-- A disk and its journals, made since the world w0. -/
structure JS (w0 w : World) (db : Nat) (fp : List Nat) (D : Dk) (js : List Jb) : Prop where
  disk : DkA w db fp D
  fr : Fr [] w0 w
  young : ∀ k, k ∈ fp → w0.heap.size ≤ k
  js : ∀ j, j ∈ js → TapeAt w j.b [.pointer (some ⟨db, 0, none⟩), .bool j.br] 71 j.vr j.t ∧ ∀ k, k ∈ tpB j.b j.vr → w0.heap.size ≤ k ∧ k ∉ fp
theorem JS.jn {w0 w : World} {db : Nat} {fp : List Nat} {D : Dk} {js : List Jb} (h : JS w0 w db fp D js) {j : Jb} (hj : j ∈ js) : JnAt w j.b db fp j.vr j.t j.br D := ⟨(h.js j hj).1, h.disk, fun k hk => ((h.js j hj).2 k hk).2⟩
theorem JS.same {w0 w w' : World} {db : Nat} {fp : List Nat} {D : Dk} {js : List Jb} (h : JS w0 w db fp D js) (hf : Fr [] w w') : JS w0 w' db fp D js :=
  ⟨h.disk.keep hf (by simp), h.fr.trans hf, h.young, fun j hj => ⟨(h.js j hj).1.same hf, (h.js j hj).2⟩⟩
theorem JS.upd {w0 w w' : World} {db : Nat} {fp fp' : List Nat} {D D' : Dk} {js : List Jb} (h : JS w0 w db fp D js) (hd : DkA w' db fp' D') (hu : Upd fp fp' w w') : JS w0 w' db fp' D' js := by
  refine ⟨hd, h.fr.step hu.fr (fun i hi => .inr (h.young i hi)), fun k hk => ?_, fun j hj => ⟨(h.js j hj).1.fr hu.fr (fun k hk => ((h.js j hj).2 k hk).2), fun k hk => ⟨((h.js j hj).2 k hk).1, fun hm => ?_⟩⟩⟩
  · rcases hu.sub k hk with h1 | h1
    · exact h.young k h1
    · exact Nat.le_trans h.fr.size h1
  · rcases hu.sub k hm with h1 | h1
    · exact ((h.js j hj).2 k hk).2 h1
    · have := tape_lt (h.js j hj).1 k hk; omega
theorem JS.step {w0 w w' : World} {db : Nat} {fp : List Nat} {D D' : Dk} {js : List Jb} {r : Value} {e : Ending} (h : JS w0 w db fp D js) (k : DkStep db fp r D' w e w') : e = .returned r ∧ ∃ fp', JS w0 w' db fp' D' js := by
  obtain ⟨rfl, fp', h1, h2⟩ := k
  exact ⟨rfl, fp', h.upd h1 h2⟩
/-- What Open leaves. -/
def OpenS (w0 : World) (db : Nat) (js : List Jb) (o : Int × Option Tp × Dk) (e : Ending) (w' : World) : Prop := match o.2.1 with
  | none => e = .returned (.tuple #[.pointer none, .int .i64 o.1]) ∧ ∃ fp', JS w0 w' db fp' o.2.2 js
  | some t => ∃ jb vr fp', e = .returned (.tuple #[.pointer (some ⟨jb, 0, none⟩), .int .i64 o.1]) ∧ JS w0 w' db fp' o.2.2 (⟨jb, vr, t, false⟩ :: js)
theorem JS.opened {w0 w w' : World} {db : Nat} {fp : List Nat} {D : Dk} {js : List Jb} {o : Int × Option Tp × Dk} {e : Ending} (h : JS w0 w db fp D js) (k : OpenJ db fp w o e w') : OpenS w0 db js o e w' := by
  obtain ⟨n, t, D'⟩ := o
  obtain ⟨fp', h1, h2, h3⟩ := k
  have hU := h.upd h1 h2
  cases t with
  | none => exact ⟨h3, fp', hU⟩
  | some t =>
    obtain ⟨jb, vr, h4, h5, h6⟩ := h3
    refine ⟨jb, vr, fp', h4, hU.disk, hU.fr, hU.young, fun j hj => ?_⟩
    rcases List.mem_cons.1 hj with rfl | hj
    · exact ⟨h5, fun k hk => ⟨Nat.le_trans h.fr.size (h6 k hk).1, (h6 k hk).2⟩⟩
    · exact hU.js j hj
theorem open_s {w0 w : World} {db : Nat} {fp : List Nat} {D : Dk} {js : List Jb} {a : Addr} (h : JS w0 w db fp D js) (hR : RndAt w0) (hA : DmgAt w0 a) (hp : D.pend.length ≤ 4000000000) : Calls Tryz.prog 23 #[.pointer (some ⟨db, 0, none⟩)] w (OpenS w0 db js D.opens) :=
  (openJ_c a db fp D w h.disk (hR.same h.fr (by simp)) (hA.fr h.fr (by simp)) hp).mono fun _ _ k => h.opened k
/-- What Append leaves. -/
def AppS (w0 : World) (jb db : Nat) (o : Int × Tp × Bool × Dk) (e : Ending) (w' : World) : Prop := e = .returned (.int .i64 o.1) ∧ ∃ vr' fp', JS w0 w' db fp' o.2.2.2 [⟨jb, vr', o.2.1, o.2.2.1⟩]
theorem JS.apped {w0 w w' : World} {jb db : Nat} {fp : List Nat} {D : Dk} {vr : Value} {t : Tp} {br : Bool} {o : Int × Tp × Bool × Dk} {e : Ending} (h : JS w0 w db fp D [⟨jb, vr, t, br⟩]) (k : AppJ jb db fp vr w o e w') : AppS w0 jb db o e w' := by
  obtain ⟨h1, vr', fp', h2, h3⟩ := k
  have hy : ∀ i, i ∈ tpB jb vr ++ fp → w0.heap.size ≤ i := fun i hi => by
    rcases List.mem_append.1 hi with h' | h'
    · exact ((h.js _ (List.mem_singleton.2 rfl)).2 i h').1
    · exact h.young i h'
  have hy2 : ∀ i, i ∈ tpB jb vr' ++ fp' → w0.heap.size ≤ i := fun i hi => by
    rcases h3.sub i hi with h' | h'
    · exact hy i h'
    · exact Nat.le_trans h.fr.size h'
  refine ⟨h1, vr', fp', h2.disk, h.fr.step h3.fr (fun i hi => .inr (hy i hi)), fun k hk => hy2 k (by simp [hk]), fun j hj => ?_⟩
  obtain rfl := List.mem_singleton.1 hj
  exact ⟨h2.tape, fun k hk => ⟨hy2 k (by simp [hk]), h2.apart k hk⟩⟩
theorem app_s {w0 w : World} {jb db : Nat} {fp : List Nat} {D : Dk} {vr : Value} {L : List ByteArray} {br : Bool} (h : JS w0 w db fp D [⟨jb, vr, tp0.adds L, br⟩]) (hR : RndAt w0) (l : List ByteArray) (a : Option Addr) (cap : Nat) (hs : Sl w (.slice a l.length cap) l.length (l.map Value.string))
    (hL : (encAll head0 L).length ≤ D.dur.length) (hll : l.length ≤ 1000) (hN : l.any longB = false → (encAll (tp0.adds L).head l).length ≤ 1000000000) (hp : D.pend.length ≤ 4000000000) : Calls Tryz.prog 8 #[.pointer (some ⟨jb, 0, none⟩), .slice a l.length cap] w (AppS w0 jb db (D.apps (tp0.adds L) br l)) := by
  have hm : D.dur.length ≤ 4194304 := by obtain ⟨_, _, _, hd, _⟩ := h.disk; exact hd.ok.max
  have hj := h.jn (List.mem_singleton.2 rfl)
  refine (app_c hj l a cap hs (by rw [tpL_head]; exact headOf_size _ _ rfl) (by rw [tpL_size]; exact hL) ?_ (by omega) hN (hR.same h.fr (by simp)) hp).mono fun _ _ k => h.apped k
  rw [tpL_recs]
  have := encAll_len L head0
  omega
/-- The bytes of a group of short records. -/
theorem enc_few (l : List ByteArray) (h : ∀ r, r ∈ l → r.size ≤ 65536) : ∀ hd : ByteArray, (encAll hd l).length ≤ l.length * 65572 := by
  induction l with
  | nil => intro hd; simp [encAll]
  | cons r l ih =>
    intro hd
    have h1 := ih (fun x hx => h x (by simp [hx])) (chainM hd r)
    have h2 := h r (by simp)
    have h3 := (encZ_len (2 * r.size) (by omega)).1
    rw [encAll, List.length_append, recL_len, putS, List.length_append, bts_len, List.length_cons]
    omega
theorem new_s (n : Nat) (w0 w : World) (hf : Fr [] w0 w) (h1 : 1 ≤ n) (h2 : n ≤ 4194304) : Calls Tryz.prog 22 #[.int .i64 n] w fun e w' => ∃ db fp, e = .returned (.tuple #[.pointer (some ⟨db, 0, none⟩), .int .i64 0]) ∧ JS w0 w' db fp (Dk.new n) [] :=
  (new_ok n w h1 h2).mono fun _ _ ⟨db, fp, he, h3, h4, h5⟩ => ⟨db, fp, he, h3, hf.trans h4, fun k hk => Nat.le_trans hf.size (h5 k hk), by simp⟩

end Go.Proofs.YtbogljpafpkikaaGreatDoor
