/-
  The reference's disk: New, Cut, Visible, Read, Sync, Write.
-/
import Derived.Test.YtanjjgodlgmfcaaRfM
import Derived.Deep.RegionHeld3
namespace Go.Proofs.Ytanjjgodlgmfcaa
open Go.RowKit Go.Lib

theorem infoCh : (Try.prog.info? 80).map (fun i => (i.zero, i.size, i.bytes)) = some (some (.agg #[.int .i64 0, .string ⟨#[]⟩]), 2, 24) := by kernel_rfl

/-- What a call on the reference's disk leaves. -/
def RfStep (b : Nat) (fp : List Nat) (r : Value) (D : Dk) (w : World) (e : Ending) (w' : World) : Prop := e = .returned r ∧ ∃ fp', RfA w' b fp' D ∧ Upd fp fp' w w'

theorem rfNew_of (n b g : Nat) (w : World) (h1 : 1 ≤ n) (h2 : n ≤ 4194304)
    (hb : w.heap[b]? = some (.cells #[.slice (some ⟨g, 0, none⟩) n n, .slice none 0 0, .bool false, .int .i64 0] 43 (0, 0))) (hg : BytesAt w g 5 (List.replicate n 0)) (hne : g ≠ b) : RfIn w b (.slice (some ⟨g, 0, none⟩) n n) (.slice none 0 0) (Dk.new n) where
  ok := ⟨by simp [Dk.new], by simp [Dk.new]; omega, by simp [Dk.new]; omega, by simp [Dk.new], by simp [Dk.new]⟩
  coh := rfl
  str := hb
  sure := ⟨by simp [Dk.new, byteCells_length], .inr ⟨g, n, _, by simp [Dk.new], Nat.zero_le _, hg, by simp [Dk.new], by simp only [maxLen]; omega, by simp [byteCells_length], by
    simp only [Dk.new, List.length_replicate, Nat.mul_one]
    exact List.take_of_length_le (by simp [byteCells_length])⟩⟩
  pend := ⟨by simp [Dk.new, pendC], .inl ⟨rfl, by simp [Dk.new]⟩⟩
  nes := fun k hk => by cases hk; exact hne
  nep := fun k hk => by cases hk

set_option maxRecDepth 100000 in
set_option maxHeartbeats 800000 in
theorem rNew_ok (n : Nat) (w : World) (h1 : 1 ≤ n) (h2 : n ≤ 4194304) : Calls Try.prog 18 #[.int .i64 n] w fun e w' => ∃ b fp, e = .returned (.tuple #[.pointer (some ⟨b, 0, none⟩), .int .i64 0]) ∧ RfA w' b fp (Dk.new n) ∧ Fr [] w w' ∧ ∀ k, k ∈ fp → w.heap.size ≤ k := by
  have hmk := fun w => run_make_row' (P := Try.prog) 40 5 (.int .u8 0) 1 Try.underlying40 infoB rfl .i64 .i64 n (by omega) (by omega) w
  go_enter Try.func18, Try.ntmps18
  go_wp2
  go_ret2
  obtain ⟨x0, x1⟩ := alloc2 w (.cells (madeCells #[Value.int .u8 0] n) 5) (.cells #[.slice (some ⟨w.heap.size, 0, none⟩) n n, .slice none 0 0, .bool false, .int .i64 0] 43)
  exact ⟨_, _, rfl, ⟨_, _, rfNew_of n _ _ _ h1 h2 x1 (by rw [BytesAt, ← madeCells_bytes]; exact x0) (by omega), rfl⟩, (Fr.alloc _ _ _).trans (Fr.alloc _ _ _), by simp [Value.ownBlock]⟩

theorem RfIn.power {w w' : World} {b : Nat} {sv pv : Value} {D : Dk} {o : Bool} {n : Nat} (h : RfIn w b sv pv D) (hf : Fr [b] w w') (hs : w'.heap[b]? = some (.cells #[sv, pv, .bool o, .int .i64 n] 43 (0, 0))) (hn : n ≤ 9223372036854775807) : RfIn w' b sv pv { D with off := o, left := n } where
  ok := ⟨h.ok.len, h.ok.pos, h.ok.max, hn, h.ok.pend⟩
  coh := h.coh
  str := hs
  sure := ownsRow_keep h.sure fun g hg => hf.block g (ownsRow_lt h.sure hg) (by simp only [List.mem_singleton]; exact h.nes g hg)
  pend := ownsRow_keep h.pend fun g hg => hf.block g (ownsRow_lt h.pend hg) (by simp only [List.mem_singleton]; exact (h.nep g hg).1)
  nes := h.nes
  nep := h.nep

theorem rfStep_in {b : Nat} {sv pv : Value} {r : Value} {D : Dk} {w w' : World} {e : Ending} {S : List Nat} (he : e = .returned r) (h : RfIn w' b sv pv D) (hf : Fr S w w') {fp : List Nat} (hS : ∀ k, k ∈ S → k ∈ fp) (hb : b ∈ fp) (h1 : ∀ g, sv.ownBlock = some g → g ∈ fp ∨ w.heap.size ≤ g) (h2 : ∀ g, pv.ownBlock = some g → g ∈ fp ∨ w.heap.size ≤ g) : RfStep b fp r D w e w' :=
  ⟨he, _, ⟨sv, pv, h, rfl⟩, hf.mono hS, fun k hk => by
    simp only [List.mem_cons, List.mem_append, Option.mem_toList] at hk
    rcases hk with rfl | hk | hk
    · exact .inl hb
    · exact h1 k hk
    · exact h2 k hk⟩

theorem rfStep_same {b : Nat} {fp : List Nat} {r : Value} {D : Dk} {w w' : World} {e : Ending} (he : e = .returned r) (h : RfA w b fp D) (hw : w = w') : RfStep b fp r D w e w' := by
  subst hw; exact ⟨he, fp, h, Upd.refl _ _⟩

set_option maxHeartbeats 800000 in
theorem rCut_dk (b : Nat) (fp : List Nat) (D : Dk) (n : Int) (w : World) (h : RfA w b fp D) (hn : n ≤ 9223372036854775807) :
    Calls Try.prog 32 #[.pointer (some ⟨b, 0, none⟩), .int .i64 n] w (RfStep b fp (.int .i64 (D.cutE n)) (D.cutD n) w) := by
  obtain ⟨sv, pv, h, rfl⟩ := h
  have c2 : w.cell? ⟨b, 2, none⟩ = some (.bool D.off) := cell_of_blk h.str 2
  have c3 : w.cell? ⟨b, 3, none⟩ = some (.int .i64 D.left) := cell_of_blk h.str 3
  have f2 := free_of_blk h.str 2
  have f3 := free_of_blk h.str 3
  have H := Lib.hid h; clear h
  by_cases ho : D.off = true
  · rw [ho] at c2
    rw [show D.cutE n = 91 by simp [Dk.cutE, ho], show D.cutD n = D by simp [Dk.cutD, ho]]
    go_enter Try.func32, Try.ntmps32
    go_wp2
    go_ret
    exact rfStep_same rfl ⟨sv, pv, H.out, rfl⟩ rfl
  · have ho : D.off = false := by simpa using ho
    rw [ho] at c2
    by_cases hn0 : n < 0
    · rw [show D.cutE n = 2 by simp [Dk.cutE, ho, hn0], show D.cutD n = D by simp [Dk.cutD, ho, hn0]]
      go_enter Try.func32, Try.ntmps32
      go_wp2
      go_ret
      exact rfStep_same rfl ⟨sv, pv, H.out, rfl⟩ rfl
    · rw [show D.cutE n = 0 by simp [Dk.cutE, ho, hn0], show D.cutD n = D.cut n.toNat by simp [Dk.cutD, ho, hn0]]
      obtain ⟨k, rfl⟩ := Int.eq_ofNat_of_zero_le (show 0 ≤ n by omega)
      go_enter Try.func32, Try.ntmps32
      go_wp2
      go_ret
      have hs := heap_setCell_same (i := 2) (.bool ((k : Int) == 0)) (heap_setCell_same (i := 3) (.int .i64 k) H.out.str)
      have hz : ((k : Int) == 0) = (k == 0) := by
        cases k with
        | zero => rfl
        | succ k => simp; omega
      rw [hz] at hs ⊢
      exact rfStep_in rfl (H.out.power (o := k == 0) (n := k) ((Fr.setCell _ _ (by simp)).trans (Fr.setCell _ _ (by simp))) hs (by omega)) ((Fr.setCell _ _ (by simp)).trans (Fr.setCell _ _ (by simp)) : Fr [b] _ _) (by simp) (by simp) (fun g hg => .inl (by simp [hg])) (fun g hg => .inl (by simp [hg]))

theorem rfPut {w w1 : World} {b g cap o : Nat} {sv pv : Value} {D : Dk} {s : ByteArray} {x : Obj} (h : RfIn w b sv pv D) (hs : o + s.size ≤ D.dur.length)
    (X1 : w1.ownsRow 0 80 2 (.slice (some ⟨g, 0, none⟩) (D.pend.length + 1) cap) (D.pend.length + 1) (pendC D.pend ++ [.int .i64 o, .string s])) (X2 : Fr pv.ownBlock.toList (w.alloc x) w1) (X3 : pv.ownBlock = some g ∨ g = (w.alloc x).heap.size) :
    RfIn (w1.setCell ⟨b, 1, none⟩ (.slice (some ⟨g, 0, none⟩) (D.pend.length + 1) cap)) b sv (.slice (some ⟨g, 0, none⟩) (D.pend.length + 1) cap) (D.put o s) ∧ Fr (b :: pv.ownBlock.toList) w (w1.setCell ⟨b, 1, none⟩ (.slice (some ⟨g, 0, none⟩) (D.pend.length + 1) cap)) := by
  have hbl := blk_lt h.str
  have nb : b ∉ pv.ownBlock.toList := fun hm => (h.nep b (by simpa using hm)).1 rfl
  have hgb : g ≠ b := by
    rcases X3 with e | e
    · exact (h.nep g e).1
    · simp at e; omega
  have hgs : sv.ownBlock ≠ some g := by
    rcases X3 with e | e
    · exact (h.nep g e).2
    · intro hh; have := ownsRow_lt h.sure hh; simp at e; omega
  have hfr : Fr (b :: pv.ownBlock.toList) w (w1.setCell ⟨b, 1, none⟩ (.slice (some ⟨g, 0, none⟩) (D.pend.length + 1) cap)) := ((Fr.alloc _ _ _).trans (X2.mono (by simp; exact fun _ h => .inr h))).trans (Fr.setCell _ _ (by simp))
  refine ⟨⟨h.ok.put hs, coh_put h.coh o s, ?_, ?_, ?_, h.nes, fun k hk => ?_⟩, hfr⟩
  · exact heap_setCell_same (i := 1) _ (X2.keep (heap_alloc_old _ h.str) nb)
  · refine ownsRow_keep h.sure fun k hk => hfr.block k (ownsRow_lt h.sure hk) ?_
    simp only [List.mem_cons, Option.mem_toList, not_or]
    exact ⟨h.nes k hk, fun hp => (h.nep k hp).2 hk⟩
  · have : (D.put o s).pend.length = D.pend.length + 1 := by simp [Dk.put]
    rw [this]
    simp only [Dk.put, pendC_snoc]
    exact ownsRow_keep X1 fun k hk => Below.heap_setCell _ _ _ _ (by simp [Value.ownBlock] at hk; subst hk; exact hgb)
  · simp [Value.ownBlock] at hk
    subst hk
    exact ⟨hgb, hgs⟩

set_option maxRecDepth 100000 in
set_option maxHeartbeats 2000000 in
theorem rWrite_dk (b : Nat) (fp : List Nat) (D : Dk) (off : Int) (s : ByteArray) (w : World) (h : RfA w b fp D) (ho1 : -9223372036854775808 ≤ off) (ho2 : off ≤ 9223372036854775807) (hsz : s.size ≤ 9223372036854775807) (hp : D.pend.length ≤ 4294967296) :
    Calls Try.prog 30 #[.pointer (some ⟨b, 0, none⟩), .int .i64 off, .string s] w (RfStep b fp (.int .i64 (D.writeE off s)) (D.writeD off s) w) := by
  obtain ⟨sv, pv, h, rfl⟩ := h
  obtain ⟨gs, cs, rfl, _, _⟩ := h.sure.form h.ok.pos
  have c0 : w.cell? ⟨b, 0, none⟩ = some (.slice (some ⟨gs, 0, none⟩) D.dur.length cs) := cell_of_blk h.str 0
  have c1 : w.cell? ⟨b, 1, none⟩ = some pv := cell_of_blk h.str 1
  have c2 : w.cell? ⟨b, 2, none⟩ = some (.bool D.off) := cell_of_blk h.str 2
  have hbl := blk_lt h.str
  have hm := h.ok.max
  have hlf := h.ok.left
  have H := Lib.hid h; clear h
  by_cases ho : D.off = true
  · rw [ho] at c2
    rw [show D.writeE off s = 91 by simp [Dk.writeE, ho], show D.writeD off s = D by simp [Dk.writeD, ho]]
    go_enter Try.func30, Try.ntmps30
    go_wp2
    go_ret
    exact rfStep_same rfl ⟨_, pv, H.out, rfl⟩ rfl
  · have ho : D.off = false := by simpa using ho
    rw [ho] at c2
    by_cases hi : insB D.dur.length off s.size = true
    · rw [show D.writeE off s = 0 by simp [Dk.writeE, ho, hi], show D.writeD off s = D.write off.toNat s by simp [Dk.writeD, ho, hi]]
      have hi2 : 0 ≤ off ∧ off + s.size ≤ D.dur.length := by simp [insB] at hi; omega
      obtain ⟨o, rfl⟩ := Int.eq_ofNat_of_zero_le hi2.1
      have hs : o + s.size ≤ D.dur.length := by omega
      clear hi hi2
      have Hs := Lib.hid hs
      have Hnew := Lib.hid (heap_alloc_new w (.cells #[.int .i64 o, .string s] 80))
      have Hrow := Lib.hid (ownsRow_keep (w' := w.alloc (.cells #[.int .i64 o, .string s] 80)) H.out.pend fun g hg => Below.heap_alloc _ _ _ (ownsRow_lt H.out.pend hg))
      have nb : b ∉ pv.ownBlock.toList := fun hm => (H.out.nep b (by simpa using hm)).1 rfl
      have Nb := Lib.hid nb; clear nb
      go_enter Try.func30, Try.ntmps30
      go_wp2_with (first | ((with_reducible refine wpList_of_wp (o := ⟨some 43, _, _, _, _, _⟩) rfl (fun K hK => ?_)); refine wp_append_blk (.tmp 38) (.tmp 42) 41 80 _ 2 24 rfl Try.underlying41 infoCh rfl (by decide) pv D.pend.length (pendC D.pend) rfl Hrow.out w.heap.size 1 1 #[.int .i64 o, .string s] _ _ rfl Hnew.out rfl (by simp [Value.oneCell']) (by decide) (by omega) (by omega) (fun g cap2 w9 x1 x2 x3 => hK _ _ ?_); have KB := Lib.hid (x2.keep (heap_alloc_old _ H.out.str) Nb.out); have k1 : w9.cell? ⟨b, 1, none⟩ = some pv := cell_of_blk KB.out 1; have k3 : w9.cell? ⟨b, 3, none⟩ = some (.int .i64 D.left) := cell_of_blk KB.out 3; have k2 : w9.cell? ⟨b, 2, none⟩ = some (.bool D.off) := cell_of_blk KB.out 2; have z1 := free_of_blk KB.out 1; have z2 := free_of_blk KB.out 2; have z3 := free_of_blk KB.out 3; have X := Lib.hid (rfPut H.out Hs.out x1 x2 x3); have Xg := Lib.hid x3; clear x1 x2 x3 hK K))
      all_goals
        go_ret
        have hpu : (D.put o s).left = D.left := rfl
        have hgp : ∀ k, (Value.slice (some (⟨g, 0, none⟩ : Addr)) (D.pend.length + 1) cap2).ownBlock = some k → k ∈ b :: ((Value.slice (some ⟨gs, 0, none⟩) D.dur.length cs).ownBlock.toList ++ pv.ownBlock.toList) ∨ w.heap.size ≤ k := fun k hk => by
          simp [Value.ownBlock] at hk
          subst hk
          rcases Xg.out with h | h
          · exact .inl (by simp [h])
          · exact .inr (by simp at h; omega)
        have hw : D.write ((o : Int).toNat) s = (D.put o s).use := by rw [Int.toNat_natCast]; rfl
        rw [hw]
        have hS : ∀ k, k ∈ b :: pv.ownBlock.toList → k ∈ b :: ((Value.slice (some ⟨gs, 0, none⟩) D.dur.length cs).ownBlock.toList ++ pv.ownBlock.toList) := fun k hk => by
          simp only [List.mem_cons, List.mem_append] at hk ⊢
          rcases hk with h | h
          · exact .inl h
          · exact .inr (.inr h)
      · have hl0 : ¬ D.left = 0 := by omega
        have hl1 : (D.left - 1 == 0) = true := by simp at *; omega
        have e : (D.put o s).use = { D.put o s with left := D.left - 1, off := true } := by simp only [Dk.use, hpu, hl0, if_false, hl1]
        rw [e]
        have hs1 := heap_setCell_same (i := 2) (.bool true) (heap_setCell_same (i := 3) (.int .i64 ((D.left : Int) - 1)) X.out.1.str)
        have e3 : ((D.left : Int) - 1) = ((D.left - 1 : Nat) : Int) := by omega
        rw [e3] at hs1 ⊢
        exact rfStep_in rfl (X.out.1.power (o := true) (n := D.left - 1) ((Fr.setCell _ _ (by simp)).trans (Fr.setCell _ _ (by simp))) hs1 (by omega)) (((X.out.2).trans (Fr.setCell _ _ (by simp))).trans (Fr.setCell _ _ (by simp))) hS (by simp) (fun k hk => .inl (by simp [hk])) hgp
      · have hl0 : ¬ D.left = 0 := by omega
        have hl1 : (D.left - 1 == 0) = false := by simp at *; omega
        have e : (D.put o s).use = { D.put o s with left := D.left - 1, off := false } := by simp only [Dk.use, hpu, hl0, if_false, hl1]
        rw [e]
        have hs1 := heap_setCell_same (i := 3) (.int .i64 ((D.left : Int) - 1)) X.out.1.str
        have e3 : ((D.left : Int) - 1) = ((D.left - 1 : Nat) : Int) := by omega
        have e4 : (D.put o s).off = false := ho
        rw [e4] at hs1
        rw [e3] at hs1 ⊢
        exact rfStep_in rfl (X.out.1.power (o := false) (n := D.left - 1) (Fr.setCell _ _ (by simp)) hs1 (by omega)) ((X.out.2).trans (Fr.setCell _ _ (by simp))) hS (by simp) (fun k hk => .inl (by simp [hk])) hgp
      · have hl0 : D.left = 0 := by omega
        have e : (D.put o s).use = D.put o s := by simp only [Dk.use, hpu, hl0, if_true]
        rw [e]
        exact rfStep_in rfl X.out.1 X.out.2 hS (by simp) (fun k hk => .inl (by simp [hk])) hgp
    · have hi : insB D.dur.length off s.size = false := by simpa using hi
      rw [show D.writeE off s = 90 by simp [Dk.writeE, ho, hi], show D.writeD off s = D by simp [Dk.writeD, ho, hi]]
      have hi2 : off < 0 ∨ (0 ≤ off ∧ (D.dur.length : Int) < off) ∨ (0 ≤ off ∧ off ≤ D.dur.length ∧ (D.dur.length : Int) - off < s.size) := by simp [insB] at hi; omega
      clear hi
      rcases hi2 with h | ⟨h, h'⟩ | ⟨h, h', h''⟩
      all_goals
        go_enter Try.func30, Try.ntmps30
        go_wp2
        go_ret
        exact rfStep_same rfl ⟨_, pv, H.out, rfl⟩ rfl

end Go.Proofs.Ytanjjgodlgmfcaa
