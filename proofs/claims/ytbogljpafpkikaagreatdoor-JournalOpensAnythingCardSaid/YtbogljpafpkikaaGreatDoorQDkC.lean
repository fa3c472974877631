/-
  The walk of Crash.
-/
import Derived.Test.YtbogljpafpkikaaGreatDoorQSL
import Derived.Test.YtbogljpafpkikaaGreatDoorQDW
namespace Go.Proofs.YtbogljpafpkikaaGreatDoor
open Go.RowKit Go.Lib

/-- Not the number of a pending write. -/
def outP (m : Nat) (x : Int) : Bool := decide (x < 0) || decide ((m : Int) ≤ x)

set_option maxRecDepth 100000 in
set_option maxHeartbeats 400000 in
theorem crash1_c (B b m : Nat) (a : Option Addr) (c : Nat) (x : Int) (w : World) (hB : w.cell? ⟨B, 0, none⟩ = some (.pointer (some ⟨b, 0, none⟩))) (h4 : w.cell? ⟨b, 4, none⟩ = some (.slice a m c)) :
    Calls Tryz.prog 86 #[.int .i64 x, .pointer (some ⟨B, 0, none⟩)] w fun e w' => e = .returned (.bool (outP m x)) ∧ w = w' := by
  by_cases h1 : x < 0
  · rw [show outP m x = true by simp [outP, h1]]
    go_enter Tryz.func86, Tryz.ntmps86
    go_wp2
    go_ret
    exact ⟨rfl, rfl⟩
  · have hd : decide (x < 0) = false := by simpa using h1
    by_cases h2 : (m : Int) ≤ x
    · rw [show outP m x = true by simp [outP, h2]]
      go_enter Tryz.func86, Tryz.ntmps86
      go_wp2
      go_ret
      exact ⟨rfl, rfl⟩
    · have hd2 : decide ((m : Int) ≤ x) = false := by simpa using h2
      rw [show outP m x = false by simp [outP, hd, hd2]]
      go_enter Tryz.func86, Tryz.ntmps86
      go_wp2
      go_ret
      exact ⟨rfl, rfl⟩

/-- A slice value that holds the ints l. -/
def OrdAt (w : World) (oa : Option Addr) (cap : Nat) (l : List Int) : Prop :=
  (l = [] ∧ oa = none ∧ cap = 0) ∨ ∃ go cur, oa = some ⟨go, 0, none⟩ ∧ cur.size = cap ∧ cap ≤ 9223372036854775807 ∧ l.length ≤ cap ∧ w.heap[go]? = some (.cells cur 3 (0, 0)) ∧ ∀ k, (h : k < l.length) → cur[k]? = some (.int .i64 l[k])

set_option maxRecDepth 100000 in
set_option maxHeartbeats 1000000 in
theorem deleteFunc_nil (fv : Value) (w : World) : Calls Tryz.prog 85 #[.slice none 0 0, fv] w fun e w' => e = .returned (.slice none 0 0) ∧ w = w' := by
  have hI : Calls Tryz.prog 103 #[.slice none 0 0, fv] w fun e w' => e = .returned (.int .i64 (-1)) ∧ w = w' := by
    go_enter Tryz.func103, Tryz.ntmps103
    go_wp2
    go_loop [8] (fun i => i = .int .i64 0) (fun _ => 0)
    case atStart => rfl
    case round =>
      subst hrel
      go_wp2
      go_ret
      exact ⟨rfl, rfl⟩
  have HI := Lib.hid hI; clear hI
  go_enter Tryz.func85, Tryz.ntmps85
  go_wp2_with (go_at_call 103; refine HI.out.mono ?_; rintro e w' ⟨rfl, rfl⟩)
  go_ret
  exact ⟨rfl, rfl⟩

theorem deleteFunc_any (B : Nat) (p : Int → Bool) (v : Value) (zs : List Int) (w : World) (h : w.ownsRow 0 3 1 v zs.length (zs.map (Value.int .i64)))
    (hz : ∀ x, x ∈ zs → -9223372036854775808 ≤ x ∧ x ≤ 9223372036854775807) (hp : ∀ g, v.ownBlock = some g → PredC 86 #[.pointer (some ⟨B, 0, none⟩)] p g w) :
    Calls Tryz.prog 85 #[v, .func (.func 86) #[] #[.pointer (some ⟨B, 0, none⟩)]] w fun e w' => ∃ oa cap, e = .returned (.slice oa (keepP p zs).length cap) ∧ OrdAt w' oa cap (keepP p zs) ∧ Fr v.ownBlock.toList w w' ∧ ∀ a, oa = some a → v.ownBlock = some a.block := by
  rcases h.2 with ⟨rfl, hz0⟩ | ⟨g, cap, cur, rfl, _, hg, r1, r2, r3, r4⟩
  · have : zs = [] := List.eq_nil_of_length_eq_zero hz0
    subst this
    refine (deleteFunc_nil _ w).mono ?_
    rintro e w' ⟨rfl, rfl⟩
    exact ⟨none, 0, rfl, .inl ⟨rfl, rfl, rfl⟩, Fr.refl _ _, fun a h => by cases h⟩
  · have hcur : ∀ j, (h : j < zs.length) → cur[j]? = some (.int .i64 (zs[j])) := fun j hj => by
      have h1 : (cur.toList.take (zs.length * 1))[j]? = (zs.map (Value.int .i64))[j]? := by rw [r4]
      rw [Nat.mul_one, List.getElem?_take_of_lt hj] at h1
      rw [← Array.getElem?_toList, h1]
      simp [hj]
    refine (deleteFunc_c B g cap p zs cur w hg (by omega) hcur r1 r2 hz (hp g rfl)).mono ?_
    rintro e w' ⟨rfl, hf, cu, c1, c2, c3⟩
    exact ⟨_, _, rfl, .inr ⟨g, cu, rfl, c1, r2, Nat.le_trans (keepP_len _ _) r1, c2, c3⟩, hf.mono (by simp [Value.ownBlock]), fun a h => by cases h; rfl⟩

/-- The numbers of the surviving writes, in order. -/
def survL (m : Nat) (keep : List Int) : List Int := keepP (outP m) (Lib.compact (sortI keep))

/-- The j-th surviving write: its offset, and the bytes of it that are applied. -/
def survS (pend : List (Nat × ByteArray)) (l : List Int) (torn : Int) (j : Nat) : Nat × ByteArray :=
  let q := pend.getD (l.getD j 0).toNat (0, ByteArray.empty)
  if j + 1 = l.length ∧ 0 ≤ torn then (q.1, q.2.extract 0 (min torn.toNat q.2.size)) else q

/-- The durable content when k survivors have been applied. -/
def crashTo (D : Dk) (l : List Int) (torn : Int) : Nat → List UInt8
  | 0 => D.dur
  | k + 1 => paste (crashTo D l torn k) (survS D.pend l torn k).1 (survS D.pend l torn k).2.data.toList

/-- The disk after a crash. -/
def Dk.crash (D : Dk) (keep : List Int) (torn : Int) : Dk :=
  let l := survL D.pend.length keep
  { off := false, left := 0, dur := crashTo D l torn l.length, vis := crashTo D l torn l.length, pend := [] }

theorem compact_mem {zs : List Int} {x : Int} (h : x ∈ Lib.compact zs) : x ∈ zs := by
  unfold Lib.compact Lib.compactUpTo at h
  obtain ⟨j, hj, rfl⟩ := List.mem_map.1 h
  have hj' : j < zs.length := by simpa using (List.mem_filter.1 hj).1
  simp [hj']

theorem survL_mem {m : Nat} {keep : List Int} {x : Int} (h : x ∈ survL m keep) : x ∈ keep ∧ 0 ≤ x ∧ x < m := by
  obtain ⟨h1, h2⟩ := List.mem_filter.1 h
  refine ⟨by simpa [sortI] using compact_mem h1, ?_⟩
  simp [outP] at h2
  omega

theorem extract_size_le (s : ByteArray) (n : Nat) : (s.extract 0 (min n s.size)).size ≤ s.size := by simp; omega

theorem survS_fits {D : Dk} (hD : D.Ok) {keep : List Int} {torn : Int} {j : Nat} (hj : j < (survL D.pend.length keep).length) :
    (survS D.pend (survL D.pend.length keep) torn j).1 + (survS D.pend (survL D.pend.length keep) torn j).2.size ≤ D.dur.length := by
  have hm := survL_mem (List.getElem_mem hj)
  have e : (survL D.pend.length keep).getD j 0 = (survL D.pend.length keep)[j] := by simp [hj]
  have hi : ((survL D.pend.length keep)[j]).toNat < D.pend.length := by omega
  have hp := hD.pend _ (List.getElem_mem hi)
  unfold survS
  rw [e, List.getD_eq_getElem?_getD, List.getElem?_eq_getElem hi, Option.getD_some]
  simp only
  split
  · have := extract_size_le (D.pend[(survL D.pend.length keep)[j].toNat]).2 torn.toNat
    simp only
    omega
  · exact hp

theorem crashTo_length {D : Dk} (hD : D.Ok) (keep : List Int) (torn : Int) : ∀ k, k ≤ (survL D.pend.length keep).length → (crashTo D (survL D.pend.length keep) torn k).length = D.dur.length
  | 0, _ => rfl
  | k + 1, h => by
    have ih := crashTo_length hD keep torn k (by omega)
    have hf := survS_fits hD (torn := torn) (show k < (survL D.pend.length keep).length by omega)
    rw [crashTo, paste_length _ _ _ (by rw [ih]; simpa using hf)]
    exact ih

theorem pendC_get : ∀ (l : List (Nat × ByteArray)) (i : Nat) (h : i < l.length), (pendC l)[i * 2]? = some (.int .i64 (l[i]).1) ∧ (pendC l)[i * 2 + 1]? = some (.string (l[i]).2)
  | [], i, h => by simp at h
  | p :: l, 0, _ => by simp [pendC]
  | p :: l, i + 1, h => by
    have ih := pendC_get l i (by simpa using h)
    have e : pendC (p :: l) = .int .i64 p.1 :: .string p.2 :: pendC l := by simp [pendC]
    rw [e, show (i + 1) * 2 = i * 2 + 1 + 1 by omega]
    simpa using ih

/-- The cells of a pending write. -/
theorem pend_cells {w : World} {tW : TypeId} {pv : Value} {l : List (Nat × ByteArray)} (h : w.ownsRow 0 tW 2 pv l.length (pendC l)) (i : Nat) (hi : i < l.length) :
    ∃ g c, pv = .slice (some ⟨g, 0, none⟩) l.length c ∧ w.cell? ⟨g, i * 2, none⟩ = some (.int .i64 (l[i]).1) ∧ w.cell? ⟨g, i * 2 + 1, none⟩ = some (.string (l[i]).2) := by
  rcases h.2 with ⟨_, h0⟩ | ⟨g, c, cur, rfl, _, hg, r1, r2, r3, r4⟩
  · omega
  · obtain ⟨p1, p2⟩ := pendC_get l i hi
    have hc : ∀ j, j < l.length * 2 → cur[j]? = (pendC l)[j]? := fun j hj => by
      rw [← r4, List.getElem?_take_of_lt hj, Array.getElem?_toList]
    exact ⟨g, c, rfl, by rw [cell_of_blk hg, hc _ (by omega)]; exact p1, by rw [cell_of_blk hg, hc _ (by omega)]; exact p2⟩

/-- What stands in memory while Crash goes over the survivors. -/
structure CrAt (w : World) (b bd bv : Nat) (pv : Value) (D : Dk) (l : List Int) (torn : Int) (oa : Option Addr) (cap : Nat) (k : Nat) (wr : World) : Prop where
  box : wr.heap[w.heap.size]? = some (.cells #[.pointer (some ⟨b, 0, none⟩)] 27 (0, 0))
  disk : DkI wr b bd bv pv { D with dur := crashTo D l torn k }
  ord : OrdAt wr oa cap l
  new : ∀ a, oa = some a → w.heap.size < a.block
  fr : Fr (b :: bd :: bv :: pv.ownBlock.toList) w wr

theorem CrAt.next {w wr w4 : World} {b bd bv : Nat} {pv : Value} {D : Dk} {l : List Int} {torn : Int} {oa : Option Addr} {cap k o : Nat} {s : ByteArray} (h : CrAt w b bd bv pv D l torn oa cap k wr) (hs : survS D.pend l torn k = (o, s)) (hl : (crashTo D l torn (k + 1)).length = D.dur.length) (hl0 : (crashTo D l torn k).length = D.dur.length)
    (hbl : bd < w.heap.size) (hf : Fr [bd] wr w4) (hb : BytesAt w4 bd 5 (paste (crashTo D l torn k) o s.data.toList)) : CrAt w b bd bv pv D l torn oa cap (k + 1) w4 := by
  have hd := h.disk
  have hne : w.heap.size ≠ bd := by omega
  refine ⟨hf.keep h.box (by simpa using hne), ?_, ?_, h.new, h.fr.trans (hf.mono (by simp))⟩
  · refine ⟨⟨?_, ?_, ?_, hd.ok.left, ?_⟩, ?_, ?_, ?_, ?_, hd.ne1, hd.ne2, hd.ne3, hd.nep⟩
    · have := hd.ok.len; simp only at this ⊢; rw [hl]; rw [hl0] at this; exact this
    · have := hd.ok.pos; simp only at this ⊢; rw [hl]; rw [hl0] at this; exact this
    · have := hd.ok.max; simp only at this ⊢; rw [hl]; rw [hl0] at this; exact this
    · have := hd.ok.pend; simp only at this ⊢; rw [hl]; rw [hl0] at this; exact this
    · have := hf.keep hd.str (by simpa using hd.ne1); simp only at this ⊢; rw [hl]; rw [hl0] at this; exact this
    · simp only [crashTo, hs]; exact hb
    · exact hf.keep hd.vis (by simpa using hd.ne3.symm)
    · exact ownsRow_keep hd.pend fun g hg => hf.block g (ownsRow_lt hd.pend hg) (by simpa using (hd.nep g hg).2.1)
  · rcases h.ord with h1 | ⟨go, cur, h1, h2, h3, h4, h5, h6⟩
    · exact .inl h1
    · have := h.new _ h1
      exact .inr ⟨go, cur, h1, h2, h3, h4, hf.keep h5 (by simp at this ⊢; omega), h6⟩

theorem survS_plain {pend : List (Nat × ByteArray)} {l : List Int} {torn : Int} {k i : Nat} (hk : k < l.length) (hi : l[k] = i) (hip : i < pend.length) (h : ¬ (k + 1 = l.length ∧ 0 ≤ torn)) : survS pend l torn k = ((pend[i]).1, (pend[i]).2) := by
  have e : l.getD k 0 = i := by simp [hk, hi]
  unfold survS
  rw [e]
  simp [h, hip]
theorem survS_torn {pend : List (Nat × ByteArray)} {l : List Int} {torn : Int} {k i : Nat} (hk : k < l.length) (hi : l[k] = i) (hip : i < pend.length) (h : k + 1 = l.length) (h0 : 0 ≤ torn) : survS pend l torn k = ((pend[i]).1, (pend[i]).2.extract 0 (min torn.toNat (pend[i]).2.size)) := by
  have e : l.getD k 0 = i := by simp [hk, hi]
  unfold survS
  rw [e]
  simp [h, h0, hip]

theorem crash_nil (keep : Value) (torn : Int) (w : World) : Calls Tryz.prog 58 #[.pointer none, keep, .int .i64 torn] w fun e w' => e = .returned (.int .i64 1) ∧ Fr [] w w' := by
  go_enter Tryz.func58, Tryz.ntmps58
  go_wp2
  go_ret
  exact ⟨rfl, Fr.alloc _ _ _⟩

theorem ownsRow_base {w : World} {base : Nat} {e : TypeId} {size : Nat} {v : Value} {n : Nat} {xs : List Value} (h : w.ownsRow base e size v n xs) {g : Nat} (hg : v.ownBlock = some g) : base ≤ g := by
  rcases h.2 with ⟨rfl, _⟩ | ⟨g', cap, cur, rfl, hb, _⟩
  · cases hg
  · cases hg; exact hb
theorem ownsRow_zero {w : World} {base : Nat} {e : TypeId} {size : Nat} {v : Value} {n : Nat} {xs : List Value} (h : w.ownsRow base e size v n xs) : w.ownsRow 0 e size v n xs := by
  refine ⟨h.1, ?_⟩
  rcases h.2 with h | ⟨g', cap, cur, rfl, _, r⟩
  · exact .inl h
  · exact .inr ⟨g', cap, cur, rfl, Nat.zero_le _, r⟩

/-- The world behind the making of the order. -/
theorem crash_start {w W0 w1 w2 w3 : World} {b bd bv : Nat} {pv v v2 : Value} {D : Dk} {l : List Int} {torn : Int} {oa : Option Addr} {cap n : Nat} {sv : Value} {xs : List Value} (h : DkI w b bd bv pv D)
    (hW : W0 = (w.alloc (.cells #[.pointer (some ⟨b, 0, none⟩)] 27)).alloc (.cells #[sv] 58)) (h1 : w1.ownsRow (w.heap.size + 1 + 1) 3 1 v n xs) (hb : Below (w.heap.size + 1 + 1) W0 w1) (f2 : Fr v.ownBlock.toList w1 w2) (e2 : v2.ownBlock = v.ownBlock)
    (f3 : Fr v2.ownBlock.toList w2 w3) (ho : OrdAt w3 oa cap l) (hn : ∀ a, oa = some a → v2.ownBlock = some a.block) : CrAt w b bd bv pv D l torn oa cap 0 w3 := by
  have hB : ∀ k, v.ownBlock = some k → w.heap.size + 1 + 1 ≤ k := fun k hk => ownsRow_base h1 hk
  have hs0 : W0.heap.size = w.heap.size + 1 + 1 := by rw [hW]; simp
  have b2 : Below (w.heap.size + 1 + 1) w1 w2 := f2.belowB (by have := hb.size; omega) fun k hk => hB k (by simpa using hk)
  have b3 : Below (w.heap.size + 1 + 1) w2 w3 := f3.belowB (by have := hb.size; have := b2.size; omega) fun k hk => hB k (by rw [← e2]; simpa using hk)
  have ball := (hb.trans b2).trans b3
  have f0 : Fr [] w W0 := by rw [hW]; exact (Fr.alloc _ _ _).trans (Fr.alloc _ _ _)
  have fall : Fr [] w w3 := ⟨ball.os.trans f0.os, ball.tape.trans f0.tape, ball.output.trans f0.output, Nat.le_trans f0.size ball.size, fun k hk hn => (ball.block k (by omega)).trans (f0.block k hk hn)⟩
  refine ⟨?_, ?_, ho, ?_, fall.mono (by simp)⟩
  · rw [ball.block _ (by omega), hW]
    exact heap_alloc_old _ (heap_alloc_new _ _)
  · have hd : DkI w3 b bd bv pv D := h.keep fun k hk => fall.block k (h.fp_lt k hk) (by simp)
    exact hd
  · intro a ha
    have := hB a.block (by rw [← e2]; exact hn a ha)
    omega

theorem pred_crash {w : World} {b m : Nat} {a : Option Addr} {c B g : Nat} (hB : w.heap[B]? = some (.cells #[.pointer (some ⟨b, 0, none⟩)] 27 (0, 0))) {st : Array Value} (hb : w.heap[b]? = some (.cells st 94 (0, 0))) (h4 : st[4]? = some (.slice a m c)) (h1 : B ≠ g) (h2 : b ≠ g) :
    PredC 86 #[.pointer (some ⟨B, 0, none⟩)] (outP m) g w := fun x W _ _ hf =>
  crash1_c B b m a c x W (cell_of_blk (hf.keep hB (by simpa using h1)) 0) ((cell_of_blk (hf.keep hb (by simpa using h2)) 4).trans h4)

set_option maxRecDepth 100000 in
set_option maxHeartbeats 4000000 in
theorem crash_some (b bd bv : Nat) (pv sv : Value) (D : Dk) (keep : List Int) (torn : Int) (w : World) (h : DkI w b bd bv pv D) (hI : IntsB w.heap.size w sv keep) (hreach : keep.length * 8 ≤ 140737488351232) (hwf : ∀ x, x ∈ keep → -9223372036854775808 ≤ x ∧ x ≤ 9223372036854775807)
    (ht : -9223372036854775808 ≤ torn) (ht2 : torn ≤ 9223372036854775807) :
    Calls Tryz.prog 58 #[.pointer (some ⟨b, 0, none⟩), sv, .int .i64 torn] w fun e w' => e = .returned (.int .i64 0) ∧ ∃ pv', DkI w' b bd bv pv' (D.crash keep torn) ∧ pv'.ownBlock = pv.ownBlock ∧ Fr (b :: bd :: bv :: pv.ownBlock.toList) w w' := by
  have hsv : ∃ a c, sv = .slice a keep.length c := by
    rcases hI with ⟨rfl, a, c, rfl⟩ | ⟨b', off, c, rfl, _⟩
    · exact ⟨_, _, rfl⟩
    · exact ⟨_, _, rfl⟩
  obtain ⟨sa, sc, rfl⟩ := hsv
  obtain ⟨pa, pc, hpv⟩ := ownsRow_slice h.pend
  have hbl := blk_lt h.str
  have hIb : IntsB (w.alloc (.cells #[.pointer (some ⟨b, 0, none⟩)] 27)).heap.size (w.alloc (.cells #[.pointer (some ⟨b, 0, none⟩)] 27)) (.slice sa keep.length sc) keep := by
    have h2 := hI.below (B := w.alloc (.cells #[.pointer (some ⟨b, 0, none⟩)] 27)) ((Below.refl _ w).alloc (Nat.le_refl _) _)
    rcases h2 with h2 | ⟨b', off, cap, e, hb, hc⟩
    · exact .inl h2
    · exact .inr ⟨b', off, cap, e, by simp; omega, hc⟩
  have cS := sorted_vals (.slice sa keep.length sc) keep _ hIb hreach (by omega)
  rw [show (w.alloc (.cells #[.pointer (some ⟨b, 0, none⟩)] 27)).heap.size = w.heap.size + 1 by simp] at cS
  have CS := Lib.hid cS
  have H := Lib.hid h; have Hwf := Lib.hid hwf; have Hpv := Lib.hid hpv
  clear h hI hwf hIb cS hpv
  go_enter Tryz.func58, Tryz.ntmps58
  go_wp2_with (first | (go_at_call 84; refine (values_c _ _ _ _).mono ?_; rintro e w' ⟨rfl, rfl⟩) | (go_at_call 83; refine CS.out.mono ?_; rintro e w1 ⟨v, rfl, h1, h2, h3⟩; have H1 := Lib.hid h1; have H3 := Lib.hid h3; clear h1 h2 h3) | (go_at_call 82; refine (compact_c v (sortI keep) w1 (ownsRow_zero (by rw [sortI_length]; exact H1.out))).mono ?_; rintro e w2 ⟨v2, rfl, c1, c2, c3⟩; have C1 := Lib.hid c1; have C2 := Lib.hid c2; have C3 := Lib.hid c3; clear c1 c2 c3))
  have hB : ∀ k, v.ownBlock = some k → w.heap.size + 1 + 1 ≤ k := fun k hk => ownsRow_base H1.out hk
  have K2 := Lib.hid (H3.out.trans (C3.out.belowB (by have := H3.out.size; simp at this; omega) fun k hk => hB k (by simpa using hk)))
  have hbox : w2.heap[w.heap.size]? = some (.cells #[.pointer (some ⟨b, 0, none⟩)] 27 (0, 0)) := (K2.out.block _ (by omega)).trans (heap_alloc_old _ (heap_alloc_new _ _))
  have hstr := (K2.out.block b (by omega)).trans (heap_alloc_old _ (heap_alloc_old _ H.out.str))
  have hp : ∀ g, v2.ownBlock = some g → PredC 86 #[.pointer (some ⟨w.heap.size, 0, none⟩)] (outP D.pend.length) g w2 := fun g hg => by
    have := hB g (by rw [← C2.out]; exact hg)
    exact pred_crash hbox hstr (by rw [Hpv.out]; rfl) (by omega) (by omega)
  have hz : ∀ x, x ∈ Lib.compact (sortI keep) → -9223372036854775808 ≤ x ∧ x ≤ 9223372036854775807 := fun x hx => Hwf.out x (by simpa [sortI] using compact_mem hx)
  refine (deleteFunc_any w.heap.size (outP D.pend.length) v2 (Lib.compact (sortI keep)) w2 C1.out hz hp).mono ?_
  rintro e w3 ⟨oa, cap, rfl, o1, f1, n1⟩
  have CR : Hid (CrAt w b bd bv pv D (survL D.pend.length keep) torn oa cap 0 w3) := Lib.hid (crash_start H.out rfl H1.out H3.out C3.out C2.out f1 o1 n1)
  clear hB K2 hbox hstr hp hz o1 f1 n1 C1 C2 C3 H1 H3 CS
  rw [show keepP (outP D.pend.length) (Lib.compact (sortI keep)) = survL D.pend.length keep from rfl]
  have HM := Lib.hid (fun x (hx : x ∈ survL D.pend.length keep) => survL_mem hx)
  have HF := Lib.hid (fun j (hj : j < (survL D.pend.length keep).length) => survS_fits H.out.ok (torn := torn) hj)
  have HL := Lib.hid (crashTo_length H.out.ok keep torn)
  have hfin : ∀ pv' w', DkI w' b bd bv pv' { off := false, left := 0, dur := crashTo D (survL D.pend.length keep) torn (survL D.pend.length keep).length, vis := crashTo D (survL D.pend.length keep) torn (survL D.pend.length keep).length, pend := [] } → DkI w' b bd bv pv' (D.crash keep torn) := fun _ _ h => h
  have Hfin := Lib.hid hfin; clear hfin
  have hlb : (survL D.pend.length keep).length ≤ 9223372036854775807 := by
    rcases CR.out.ord with ⟨h, _⟩ | ⟨_, _, _, _, h1, h2, _⟩
    · rw [h]; simp
    · omega
  generalize survL D.pend.length keep = l at *
  generalize hL : l.length = L at *
  have HLen := Lib.hid hL; clear hL
  go_wp2
  go_loopw [22] (fun i wr => ∃ k : Nat, k ≤ L ∧ i = .int .i64 k ∧ Hid (CrAt w b bd bv pv D l torn oa cap k wr)) (fun i _ => L - (intOf i).toNat)
  case atStart => exact ⟨0, Nat.zero_le _, rfl, CR⟩
  case round =>
    obtain ⟨k, hk, rfl, HC⟩ := hrel
    by_cases hlt : k < L
    · have hlz : k < l.length := by rw [HLen.out]; exact hlt
      obtain ⟨go, cur, rfl, hcs, hcap, hlc, hgo, hcu⟩ : ∃ go cur, oa = some ⟨go, 0, none⟩ ∧ cur.size = cap ∧ cap ≤ 9223372036854775807 ∧ l.length ≤ cap ∧ wr.heap[go]? = some (.cells cur 3 (0, 0)) ∧ ∀ k, (h : k < l.length) → cur[k]? = some (.int .i64 l[k]) := by
        rcases HC.out.ord with ⟨h, _⟩ | h
        · rw [h] at hlz; simp at hlz
        · exact h
      have hm := HM.out _ (List.getElem_mem hlz)
      obtain ⟨i, hi⟩ := Int.eq_ofNat_of_zero_le hm.2.1
      have hip : i < D.pend.length := by omega
      have ck : wr.cell? ⟨go, k, none⟩ = some (.int .i64 i) := by rw [cell_of_blk hgo, hcu k hlz, hi]
      obtain ⟨g, c, hpv, p1, p2⟩ := pend_cells HC.out.disk.pend i hip
      have cb : wr.cell? ⟨w.heap.size, 0, none⟩ = some (.pointer (some ⟨b, 0, none⟩)) := cell_of_blk HC.out.box 0
      have c4 : wr.cell? ⟨b, 4, none⟩ = some (.slice (some ⟨g, 0, none⟩) D.pend.length c) := by rw [cell_of_blk HC.out.disk.str]; simpa using hpv
      have c2 : wr.cell? ⟨b, 2, none⟩ = some (.slice (some ⟨bd, 0, none⟩) D.dur.length D.dur.length) := by rw [cell_of_blk HC.out.disk.str]; simp [HL.out k (by omega)]
      have hlw := blk_lt HC.out.box
      have hbw := blk_lt HC.out.disk.str
      have Hi := Lib.hid hi; have Hgo := Lib.hid hgo; have Hcu := Lib.hid hcu; have Hcs := Lib.hid hcs; have Hpv2 := Lib.hid hpv
      clear hi hgo hcu hcs hpv hm
      generalize hoo : (D.pend[i]).1 = o at *
      generalize hss : (D.pend[i]).2 = ss at *
      have Hoo := Lib.hid hoo; have Hss := Lib.hid hss; clear hoo hss
      by_cases hlast : k + 1 = L
      · by_cases ht0 : 0 ≤ torn
        · have hkl : ((k : Int) == (L : Int) - 1) = true := by rw [beq_iff_eq]; omega
          have htd : decide (0 ≤ torn) = true := by simpa using ht0
          have hsv : survS D.pend l torn k = (o, ss.extract 0 (min torn (ss.size : Int)).toNat) := by
            rw [survS_torn hlz Hi.out hip (by rw [HLen.out]; exact hlast) ht0, Hoo.out, Hss.out, show (min torn (ss.size : Int)).toNat = min torn.toNat ss.size by omega]
          have hft := HF.out k hlt; rw [hsv] at hft
          have hl0 := HL.out k (by omega)
          have hmx := H.out.ok.max
          have CO := Lib.hid (onto_any o (ss.extract 0 (min torn (ss.size : Int)).toNat) bd D.dur.length (crashTo D l torn k) (wr.alloc (.cells #[.int .i64 o, .string (ss.extract 0 (min torn (ss.size : Int)).toNat)] 89)).drew hft hmx (heap_alloc_old _ HC.out.disk.dur) hl0)
          have Hsv := Lib.hid hsv; have Hl0 := Lib.hid hl0; clear hsv hl0 hft
          go_wp2
          go_region_law (go_simp; go_at_call 44; refine CO.out.mono ?_; rintro e w4 ⟨rfl, f4, b4⟩)
          all_goals
            have CN := Lib.hid (HC.out.next Hsv.out (HL.out (k + 1) (by omega)) Hl0.out (blk_lt H.out.dur) (((Fr.alloc _ _ _).trans (Fr.drew _ _)).trans f4) b4)
            clear f4 b4
            go_wp2
            go_roundw
            case rel => exact ⟨k + 1, by omega, by go_num, CN⟩
            case measure => simp [intOf]; omega
        · have hkl : ((k : Int) == (L : Int) - 1) = true := by rw [beq_iff_eq]; omega
          have htd : decide (0 ≤ torn) = false := by simpa using ht0
          have hsv : survS D.pend l torn k = (o, ss) := by rw [survS_plain hlz Hi.out hip (by omega), Hoo.out, Hss.out]
          have hft := HF.out k hlt; rw [hsv] at hft
          have hl0 := HL.out k (by omega)
          have hmx := H.out.ok.max
          have CO := Lib.hid (onto_any o ss bd D.dur.length (crashTo D l torn k) (wr.alloc (.cells #[.int .i64 o, .string ss] 89)).drew hft hmx (heap_alloc_old _ HC.out.disk.dur) hl0)
          have Hsv := Lib.hid hsv; have Hl0 := Lib.hid hl0; clear hsv hl0
          go_wp2
          go_region_law (go_simp; go_at_call 44; refine CO.out.mono ?_; rintro e w4 ⟨rfl, f4, b4⟩)
          all_goals
            have CN := Lib.hid (HC.out.next Hsv.out (HL.out (k + 1) (by omega)) Hl0.out (blk_lt H.out.dur) (((Fr.alloc _ _ _).trans (Fr.drew _ _)).trans f4) b4)
            clear f4 b4
            go_wp2
            go_roundw
            case rel => exact ⟨k + 1, by omega, by go_num, CN⟩
            case measure => simp [intOf]; omega
      · have hkl : ((k : Int) == (L : Int) - 1) = false := by rw [beq_eq_false_iff_ne]; omega
        have hsv : survS D.pend l torn k = (o, ss) := by rw [survS_plain hlz Hi.out hip (by rw [HLen.out]; omega), Hoo.out, Hss.out]
        have hft := HF.out k hlt; rw [hsv] at hft
        have hl0 := HL.out k (by omega)
        have hmx := H.out.ok.max
        have CO := Lib.hid (onto_any o ss bd D.dur.length (crashTo D l torn k) (wr.alloc (.cells #[.int .i64 o, .string ss] 89)).drew hft hmx (heap_alloc_old _ HC.out.disk.dur) hl0)
        have Hsv := Lib.hid hsv; have Hl0 := Lib.hid hl0; clear hsv hl0
        go_wp2
        go_region_law (go_simp; go_at_call 44; refine CO.out.mono ?_; rintro e w4 ⟨rfl, f4, b4⟩)
        all_goals
          have CN := Lib.hid (HC.out.next Hsv.out (HL.out (k + 1) (by omega)) Hl0.out (blk_lt H.out.dur) (((Fr.alloc _ _ _).trans (Fr.drew _ _)).trans f4) b4)
          clear f4 b4
          go_wp2
          go_roundw
          case rel => exact ⟨k + 1, by omega, by go_num, CN⟩
          case measure => simp [intOf]; omega
    · obtain rfl : k = L := by omega
      have hd := HC.out.disk
      have hl0 := HL.out k (by omega)
      have cb : wr.cell? ⟨w.heap.size, 0, none⟩ = some (.pointer (some ⟨b, 0, none⟩)) := cell_of_blk HC.out.box 0
      have c2 : wr.cell? ⟨b, 2, none⟩ = some (.slice (some ⟨bd, 0, none⟩) D.dur.length D.dur.length) := by rw [cell_of_blk hd.str]; simp [hl0]
      have c3 : wr.cell? ⟨b, 3, none⟩ = some (.slice (some ⟨bv, 0, none⟩) D.dur.length D.dur.length) := by rw [cell_of_blk hd.str]; simp [hl0]
      have cS := settle_vis b bd bv pv _ wr.drew hd.drew
      simp only [hl0] at cS
      have CS := Lib.hid cS; have Hl0 := Lib.hid hl0; clear cS hl0 hd
      go_wp2
      go_region_law (go_simp; go_at_call 65; refine CS.out.mono ?_; rintro e w5 ⟨rfl, pv', d5, o5, f5⟩; have D5 := Lib.hid d5; have O5 := Lib.hid o5; clear d5 o5)
      all_goals
        have hb5 : w5.heap[w.heap.size]? = some (.cells #[.pointer (some ⟨b, 0, none⟩)] 27 (0, 0)) := f5.keep HC.out.box (fun hm => Nat.lt_irrefl _ (H.out.fp_lt _ hm))
        have cb5 : w5.cell? ⟨w.heap.size, 0, none⟩ = some (.pointer (some ⟨b, 0, none⟩)) := cell_of_blk hb5 0
        have q0 : w5.cell? ⟨b, 0, none⟩ = some (.bool D.off) := cell_of_blk D5.out.str 0
        have q1 : w5.cell? ⟨b, 1, none⟩ = some (.int .i64 D.left) := cell_of_blk D5.out.str 1
        have z0 := free_of_blk D5.out.str 0
        have z1 := free_of_blk D5.out.str 1
        clear hb5
        go_wp2
        go_ret
        refine ⟨rfl, pv', Hfin.out _ _ ?_, O5.out, ?_⟩
        · have hp := D5.out.power false 0 (by omega) (w' := (w5.setCell ⟨b, 0, none⟩ (.bool false)).setCell ⟨b, 1, none⟩ (.int .i64 0)) (by rw [heap_setCell_same _ (heap_setCell_same _ D5.out.str)]; simp) (fun j _ hj => (Below.heap_setCell _ _ _ _ hj).trans (Below.heap_setCell _ _ _ _ hj))
          simpa using hp
        · exact ((HC.out.fr.trans ((Fr.drew _ _).trans f5)).trans (Fr.setCell _ _ (by simp))).trans (Fr.setCell _ _ (by simp))

theorem crash_dk (b : Nat) (fp : List Nat) (sv : Value) (D : Dk) (keep : List Int) (torn : Int) (w : World) (h : DkA w b fp D) (hI : IntsB w.heap.size w sv keep) (hreach : keep.length * 8 ≤ 140737488351232) (hwf : ∀ x, x ∈ keep → -9223372036854775808 ≤ x ∧ x ≤ 9223372036854775807)
    (ht : -9223372036854775808 ≤ torn) (ht2 : torn ≤ 9223372036854775807) :
    Calls Tryz.prog 58 #[.pointer (some ⟨b, 0, none⟩), sv, .int .i64 torn] w (DkStep b fp (.int .i64 0) (D.crash keep torn) w) := by
  obtain ⟨bd, bv, pv, h, rfl⟩ := h
  exact (crash_some b bd bv pv sv D keep torn w h hI hreach hwf ht ht2).mono fun e w' ⟨he, pv', h1, h2, h3⟩ => dkStep_of he h1 (fun g hg => .inl (h2 ▸ hg)) h3

end Go.Proofs.YtbogljpafpkikaaGreatDoor
