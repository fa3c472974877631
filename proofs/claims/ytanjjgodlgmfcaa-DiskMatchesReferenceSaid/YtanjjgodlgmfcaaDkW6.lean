/-
  The walks of package disk, sixth part: Write.
-/
import Derived.Test.YtanjjgodlgmfcaaDkW5
namespace Go.Proofs.Ytanjjgodlgmfcaa
open Go.RowKit Go.Lib

set_option maxHeartbeats 400000 in
theorem write_nil (off : Int) (s : ByteArray) (w : World) : Calls Try.prog 21 #[.pointer none, .int .i64 off, .string s] w fun e w' => e = .returned (.int .i64 1) ∧ w = w' := by
  go_enter Try.func21, Try.ntmps21
  go_wp2_with (go_at_call 28; refine (check_nil _).mono ?_; rintro e w' ⟨rfl, rfl⟩)
  go_ret
  exact ⟨rfl, rfl⟩
set_option maxHeartbeats 400000 in
theorem write_off (b : Nat) (off : Int) (s : ByteArray) (w : World) (hc : w.cell? ⟨b, 0, none⟩ = some (.bool true)) : Calls Try.prog 21 #[.pointer (some ⟨b, 0, none⟩), .int .i64 off, .string s] w fun e w' => e = .returned (.int .i64 91) ∧ w = w' := by
  go_enter Try.func21, Try.ntmps21
  go_wp2_with (go_at_call 28; refine (check_off _ _ hc).mono ?_; rintro e w' ⟨rfl, rfl⟩)
  go_ret
  exact ⟨rfl, rfl⟩
set_option maxHeartbeats 400000 in
theorem write_out (b bd m : Nat) (off : Int) (s : ByteArray) (w : World) (hc : w.cell? ⟨b, 0, none⟩ = some (.bool false)) (hc2 : w.cell? ⟨b, 2, none⟩ = some (.slice (some ⟨bd, 0, none⟩) m m)) (hm : m ≤ 4194304) (ho : -9223372036854775808 ≤ off) (ho2 : off ≤ 9223372036854775807) (hn2 : s.size ≤ 9223372036854775807) (hi : insB m off s.size = false) :
    Calls Try.prog 21 #[.pointer (some ⟨b, 0, none⟩), .int .i64 off, .string s] w fun e w' => e = .returned (.int .i64 90) ∧ w = w' := by
  have cI := inside_c b bd m off s.size w hc2 hm ho ho2 (by omega) (by omega)
  rw [hi] at cI
  have CI := Lib.hid cI; clear cI
  have Hi := Lib.hid hi; clear hi
  go_enter Try.func21, Try.ntmps21
  go_wp2_with (first | (go_at_call 28; refine (check_on _ _ hc).mono ?_; rintro e w' ⟨rfl, rfl⟩) | (go_at_call 29; refine CI.out.mono ?_; rintro e w' ⟨rfl, rfl⟩))
  go_ret
  exact ⟨rfl, rfl⟩

theorem alloc2 (w : World) (x y : Obj) : ((w.alloc x).alloc y).heap[w.heap.size]? = some x ∧ ((w.alloc x).alloc y).heap[w.heap.size + 1]? = some y := by
  have e1 : (w.alloc x).heap.size = w.heap.size + 1 := by simp
  have h0 := heap_alloc_new w x
  have h1 := heap_alloc_new (w.alloc x) y
  rw [e1] at h1
  exact ⟨heap_alloc_old y h0, h1⟩

/-- Behind the append and the store: the world in which the write's bytes are laid. -/
structure AtOnto (w : World) (b bd bv : Nat) (pv : Value) (D : Dk) (o : Nat) (s : ByteArray) (w2 : World) : Prop where
  tmp : w2.heap[w.heap.size]? = some (.cells #[.int .i64 o, .string s] 69 (0, 0))
  disk : ∃ pv', DkI w2 b bd bv pv' { D with pend := D.pend ++ [(o, s)] } ∧ (∀ g, pv'.ownBlock = some g → pv.ownBlock = some g ∨ w.heap.size ≤ g)
  fr : Fr (b :: bd :: bv :: pv.ownBlock.toList) w w2

theorem atOnto (b bd bv : Nat) (pv : Value) (D : Dk) (o : Nat) (s : ByteArray) (w w1 w2 : World) (h : DkI w b bd bv pv D) (hs : o + s.size ≤ D.dur.length) (B2 : Obj) (g cap : Nat)
    (hw1 : Fr pv.ownBlock.toList ((w.alloc (.cells #[.int .i64 o, .string s] 69)).alloc B2) w1)
    (hown : w1.ownsRow 0 69 2 (.slice (some ⟨g, 0, none⟩) (D.pend.length + 1) cap) (D.pend.length + 1) (pendC D.pend ++ [.int .i64 o, .string s]))
    (hg : pv.ownBlock = some g ∨ g = w.heap.size + 1 + 1) (hw2 : w2.heap = (w1.setCell ⟨b, 4, none⟩ (.slice (some ⟨g, 0, none⟩) (D.pend.length + 1) cap)).heap) (ho : w2.os = w1.os) (ht : w2.tape = w1.tape) (hp : w2.output = w1.output) : AtOnto w b bd bv pv D o s w2 := by
  have hlt := h.fp_lt
  have lb : b < w.heap.size := hlt b (by simp)
  have lbd : bd < w.heap.size := hlt bd (by simp)
  have lbv : bv < w.heap.size := hlt bv (by simp)
  have hgb : g ≠ b ∧ g ≠ bd ∧ g ≠ bv := by
    rcases hg with hg | hg
    · exact h.nep g hg
    · omega
  have hne : w.heap.size ∉ pv.ownBlock.toList := fun hm => Nat.lt_irrefl _ (hlt _ (by simp only [List.mem_cons]; exact .inr (.inr (.inr hm))))
  have a2 := (alloc2 w (.cells #[.int .i64 o, .string s] 69) B2).1
  have f0 : Fr pv.ownBlock.toList w w1 := ((Fr.alloc _ _ _).trans (Fr.alloc _ _ _)).trans hw1
  have kp : ∀ k, k < w.heap.size → k ∉ pv.ownBlock.toList → k ≠ b → w2.heap[k]? = w.heap[k]? := fun k h1 h2 h3 => by
    rw [hw2, Below.heap_setCell _ _ _ _ h3]; exact f0.block k h1 h2
  have nb : ∀ k, pv.ownBlock ≠ some k → k ∉ pv.ownBlock.toList := fun k hk hm => hk (by simpa using hm)
  refine ⟨?_, ⟨.slice (some ⟨g, 0, none⟩) (D.pend.length + 1) cap, ⟨⟨h.ok.len, h.ok.pos, h.ok.max, h.ok.left, ?_⟩, ?_, ?_, ?_, ?_, h.ne1, h.ne2, h.ne3, ?_⟩, ?_⟩, ?_⟩
  · rw [hw2, Below.heap_setCell _ _ _ _ (by simp; omega)]
    exact hw1.keep a2 hne
  · intro p hp
    simp only [List.mem_append, List.mem_singleton] at hp
    rcases hp with hp | rfl
    · exact h.ok.pend p hp
    · exact hs
  · rw [hw2]
    have hb1 := f0.keep h.str (nb b fun hm => (h.nep b hm).1 rfl)
    rw [heap_setCell_same _ hb1]
    simp
  · exact (kp bd lbd (nb bd fun hm => (h.nep bd hm).2.1 rfl) h.ne1.symm).trans h.dur
  · exact (kp bv lbv (nb bv fun hm => (h.nep bv hm).2.2 rfl) h.ne2.symm).trans h.vis
  · have : w2.ownsRow 0 69 2 (.slice (some ⟨g, 0, none⟩) (D.pend.length + 1) cap) (D.pend.length + 1) (pendC D.pend ++ [.int .i64 o, .string s]) :=
      ownsRow_keep hown fun g' hg' => by
        have : g' = g := by simpa [Value.ownBlock] using hg'.symm
        subst this
        rw [hw2, Below.heap_setCell _ _ _ _ hgb.1]
    simpa [pendC_snoc] using this
  · intro g' hg'
    have : g' = g := by simpa [Value.ownBlock] using hg'.symm
    subst this
    exact hgb
  · intro g' hg'
    have : g' = g := by simpa [Value.ownBlock] using hg'.symm
    subst this
    rcases hg with hg | hg
    · exact .inl hg
    · exact .inr (by omega)
  · have f1 : Fr (b :: bd :: bv :: pv.ownBlock.toList) w (w1.setCell ⟨b, 4, none⟩ (.slice (some ⟨g, 0, none⟩) (D.pend.length + 1) cap)) :=
      (f0.mono fun i hi => by simp only [List.mem_cons]; exact .inr (.inr (.inr hi))).trans (Fr.setCell _ _ (by simp))
    exact ⟨ho.trans f1.os, ht.trans f1.tape, hp.trans f1.output, by rw [hw2]; exact f1.size, fun k h1 h2 => by rw [hw2]; exact f1.block k h1 h2⟩


theorem putIn {w w' : World} {b bd bv o : Nat} {pv : Value} {D : Dk} {s : ByteArray} (h : DkI w b bd bv pv { D with pend := D.pend ++ [(o, s)] }) (hs : o + s.size ≤ D.dur.length) (hf : Fr [bv] w w') (hb : BytesAt w' bv 5 (paste D.vis o s.data.toList)) : DkI w' b bd bv pv (D.put o s) where
  ok := by
    have h0 : D.Ok := ⟨h.ok.len, h.ok.pos, h.ok.max, h.ok.left, fun p hp => h.ok.pend p (by simp [hp])⟩
    exact h0.put hs
  str := hf.keep h.str (by simpa using h.ne2)
  dur := hf.keep h.dur (by simpa using h.ne3)
  vis := hb
  pend := ownsRow_keep h.pend fun g hg => hf.block g (ownsRow_lt h.pend hg) (by simpa using (h.nep g hg).2.2)
  ne1 := h.ne1
  ne2 := h.ne2
  ne3 := h.ne3
  nep := h.nep

set_option maxRecDepth 100000 in
set_option maxHeartbeats 1000000 in
theorem write_ok (b bd bv o : Nat) (pv : Value) (D : Dk) (s : ByteArray) (w : World) (h : DkI w b bd bv pv D) (ho : D.off = false) (hs : o + s.size ≤ D.dur.length) (hp : D.pend.length ≤ 4294967296) :
    Calls Try.prog 21 #[.pointer (some ⟨b, 0, none⟩), .int .i64 o, .string s] w fun e w' => e = .returned (.int .i64 0) ∧ ∃ pv', DkI w' b bd bv pv' (D.write o s) ∧ (∀ g, pv'.ownBlock = some g → pv.ownBlock = some g ∨ w.heap.size ≤ g) ∧ Fr (b :: bd :: bv :: pv.ownBlock.toList) w w' := by
  have hc : w.cell? ⟨b, 0, none⟩ = some (.bool false) := by rw [cell_of_blk h.str]; simp [ho]
  have hc2 : w.cell? ⟨b, 2, none⟩ = some (.slice (some ⟨bd, 0, none⟩) D.dur.length D.dur.length) := by rw [cell_of_blk h.str]; rfl
  have hc4 : w.cell? ⟨b, 4, none⟩ = some pv := by rw [cell_of_blk h.str]; rfl
  have hm := h.ok.max
  have cI := inside_c b bd _ o s.size w hc2 hm (by omega) (by omega) (by omega) (by omega)
  rw [show insB D.dur.length o s.size = true by simp [insB]; omega] at cI
  have CI := Lib.hid cI; clear cI
  have hbl := blk_lt h.str
  have Hp : Hid (∀ x y, (((w.alloc x).alloc y).drew).ownsRow 0 69 2 pv D.pend.length (pendC D.pend)) := Lib.hid fun x y => ownsRow_keep h.pend fun g hg =>
    (Below.heap_alloc _ _ _ (by have := ownsRow_lt h.pend hg; simp; omega)).trans (Below.heap_alloc _ _ _ (ownsRow_lt h.pend hg))
  have HN : Hid (∀ x y, (((w.alloc x).alloc y).drew).heap[w.heap.size + 1]? = some y) := Lib.hid fun x y => (alloc2 w x y).2
  have H := Lib.hid h; have Ho := Lib.hid ho; clear h ho
  go_enter Try.func21, Try.ntmps21
  go_wp2_with (first | (go_at_call 28; refine (check_on _ _ hc).mono ?_; rintro e w' ⟨rfl, rfl⟩) | (go_at_call 29; refine CI.out.mono ?_; rintro e w' ⟨rfl, rfl⟩))
  have nb : b ∉ pv.ownBlock.toList := fun hm => (H.out.nep b (by simpa using hm)).1 rfl
  go_region_law (refine step_of_wp rfl (wp_append_blk (.tmp 27) (.tmp 29) 63 69 _ 2 24 rfl Try.underlying63 infoW rfl (by decide) pv D.pend.length (pendC D.pend) rfl (by exact Hp.out _ _) (w.heap.size + 1) 1 1 _ _ _ rfl (by exact HN.out _ _) rfl (by simp [Value.oneCell']) (by decide) (by omega) (by omega) ?_); intro g cap w1 hown hfr hat; have KB := Lib.hid (hfr.keep (heap_alloc_old _ (heap_alloc_old _ H.out.str)) nb); have c4 : w1.cell? ⟨b, 4, none⟩ = some pv := cell_of_blk KB.out 4; have z4 := free_of_blk KB.out 4; have Hown := Lib.hid hown; have Hat := Lib.hid hat; clear hown hat)
  all_goals
    have HA : AtOnto w b bd bv pv D o s (w1.setCell ⟨b, 4, none⟩ (.slice (some ⟨g, 0, none⟩) (D.pend.length + 1) cap)) := atOnto b bd bv pv D o s w w1 _ H.out hs _ g cap ((Fr.drew _ _).trans hfr) (by simpa using Hown.out) (by simpa using Hat.out) rfl rfl rfl rfl
    generalize w1.setCell ⟨b, 4, none⟩ (.slice (some ⟨g, 0, none⟩) (D.pend.length + 1) cap) = w2 at HA ⊢
    clear c4 z4 KB Hown Hat hfr
    obtain ⟨tmp, ⟨pv', hd, hsub⟩, fr⟩ := HA
    have t0 : w2.cell? ⟨w.heap.size, 0, none⟩ = some (.int .i64 o) := cell_of_blk tmp 0
    have t1 : w2.cell? ⟨w.heap.size, 1, none⟩ = some (.string s) := cell_of_blk tmp 1
    have c3 : w2.cell? ⟨b, 3, none⟩ = some (.slice (some ⟨bv, 0, none⟩) D.dur.length D.dur.length) := cell_of_blk hd.str 3
    have CO := Lib.hid (onto_any o s bv D.dur.length D.vis w2.drew hs hm hd.vis hd.ok.len)
    have Hd := Lib.hid hd; have Hsub := Lib.hid hsub; have Tmp := Lib.hid tmp; clear hd hsub tmp
    go_wp2
    go_region_law (go_simp; go_at_call 35; refine CO.out.mono ?_; rintro e w3 ⟨rfl, f3, b3⟩)
    all_goals
      have Hu := Lib.hid (used_dk b bd bv pv' (D.put o s) w3 (putIn Hd.out hs ((Fr.drew _ _).trans f3) b3))
      clear b3
      go_wp2_with (go_at_call 36; refine Hu.out.mono ?_; rintro e w4 ⟨rfl, d4, f4⟩)
      go_ret
      exact ⟨rfl, pv', d4, Hsub.out, (fr.trans ((Fr.drew _ _).trans (f3.mono (by simp)))).trans (f4.mono (by simp))⟩


/-- What Write returns, and what it leaves. -/
def Dk.writeE (D : Dk) (off : Int) (s : ByteArray) : Int := if D.off then 91 else if insB D.dur.length off s.size then 0 else 90
def Dk.writeD (D : Dk) (off : Int) (s : ByteArray) : Dk := if D.off then D else if insB D.dur.length off s.size then D.write off.toNat s else D

/-- A call that changes a disk: what it returns, the disk after it, the blocks. -/
def DkStep (b : Nat) (fp : List Nat) (r : Value) (D : Dk) (w : World) (e : Ending) (w' : World) : Prop := e = .returned r ∧ ∃ fp', DkA w' b fp' D ∧ Upd fp fp' w w'

theorem dkStep_of {b bd bv : Nat} {pv : Value} {r : Value} {D : Dk} {w w' : World} {e : Ending} (he : e = .returned r) {pv' : Value} (h : DkI w' b bd bv pv' D) (hs : ∀ g, pv'.ownBlock = some g → pv.ownBlock = some g ∨ w.heap.size ≤ g)
    (hf : Fr (b :: bd :: bv :: pv.ownBlock.toList) w w') : DkStep b (b :: bd :: bv :: pv.ownBlock.toList) r D w e w' :=
  ⟨he, _, ⟨bd, bv, pv', h, rfl⟩, hf, fun k hk => by
    simp only [List.mem_cons, Option.mem_toList] at hk ⊢
    rcases hk with hk | hk | hk | hk
    · exact .inl (.inl hk)
    · exact .inl (.inr (.inl hk))
    · exact .inl (.inr (.inr (.inl hk)))
    · rcases hs k hk with h | h
      · exact .inl (.inr (.inr (.inr h)))
      · exact .inr h⟩

theorem dkStep_same {b : Nat} {fp : List Nat} {r : Value} {D : Dk} {w w' : World} {e : Ending} (he : e = .returned r) (h : DkA w b fp D) (hw : w = w') : DkStep b fp r D w e w' := by
  subst hw; exact ⟨he, fp, h, Upd.refl _ _⟩

theorem write_dk (b : Nat) (fp : List Nat) (D : Dk) (off : Int) (s : ByteArray) (w : World) (h : DkA w b fp D) (ho : -9223372036854775808 ≤ off) (ho2 : off ≤ 9223372036854775807) (hs : s.size ≤ 9223372036854775807) (hp : D.pend.length ≤ 4294967296) :
    Calls Try.prog 21 #[.pointer (some ⟨b, 0, none⟩), .int .i64 off, .string s] w (DkStep b fp (.int .i64 (D.writeE off s)) (D.writeD off s) w) := by
  have h0 := h
  obtain ⟨bd, bv, pv, h, rfl⟩ := h
  have hm := h.ok.max
  cases hoff : D.off with
  | true =>
    rw [show D.writeE off s = 91 by simp [Dk.writeE, hoff], show D.writeD off s = D by simp [Dk.writeD, hoff]]
    exact (write_off b off s w (by rw [cell_of_blk h.str]; simp [hoff])).mono fun e w' ⟨he, hw⟩ => dkStep_same he h0 hw
  | false =>
    cases hi : insB D.dur.length off s.size with
    | false =>
      rw [show D.writeE off s = 90 by simp [Dk.writeE, hoff, hi], show D.writeD off s = D by simp [Dk.writeD, hi]]
      exact (write_out b bd _ off s w (by rw [cell_of_blk h.str]; simp [hoff]) (by rw [cell_of_blk h.str]; rfl) hm ho ho2 hs hi).mono fun e w' ⟨he, hw⟩ => dkStep_same he h0 hw
    | true =>
      rw [show D.writeE off s = 0 by simp [Dk.writeE, hoff, hi], show D.writeD off s = D.write off.toNat s by simp [Dk.writeD, hoff, hi]]
      simp only [insB, decide_eq_true_eq] at hi
      obtain ⟨o, rfl⟩ := Int.eq_ofNat_of_zero_le hi.1
      exact (write_ok b bd bv o pv D s w h hoff (by omega) hp).mono fun e w' ⟨he, pv', h1, h2, h3⟩ => dkStep_of he h1 h2 h3

/-- What Sync returns, and what it leaves. -/
def Dk.syncE (D : Dk) : Int := if D.off then 91 else 0
def Dk.syncD (D : Dk) : Dk := if D.off then D else D.sync
theorem sync_dk (b : Nat) (fp : List Nat) (D : Dk) (w : World) (h : DkA w b fp D) : Calls Try.prog 23 #[.pointer (some ⟨b, 0, none⟩)] w (DkStep b fp (.int .i64 D.syncE) D.syncD w) := by
  have h0 := h
  obtain ⟨bd, bv, pv, h, rfl⟩ := h
  cases hoff : D.off with
  | true =>
    rw [show D.syncE = 91 by simp [Dk.syncE, hoff], show D.syncD = D by simp [Dk.syncD, hoff]]
    exact (sync_off b w (by rw [cell_of_blk h.str]; simp [hoff])).mono fun e w' ⟨he, hw⟩ => dkStep_same he h0 hw
  | false =>
    rw [show D.syncE = 0 by simp [Dk.syncE, hoff], show D.syncD = D.sync by simp [Dk.syncD, hoff]]
    exact (sync_on b bd bv pv D w h hoff).mono fun e w' ⟨he, pv', h1, h2, h3⟩ => dkStep_of he h1 (fun g hg => .inl (h2 ▸ hg)) h3

end Go.Proofs.Ytanjjgodlgmfcaa
