/-
  The journal's laws about power failures, the plain part: a content with anything behind a zero byte.
-/
import Derived.Test.YtbogljpafpkikaaGreatDoorQLA
import Derived.Test.YtbogljpafpkikaaGreatDoorQLS
import Derived.Test.YtbogljpafpkikaaGreatDoorQDkC
import Derived.Test.YtbogljpafpkikaaGreatDoorQLw
namespace Go.Proofs.YtbogljpafpkikaaGreatDoor
open Go.RowKit Go.Lib

theorem ldM_encX (X : List UInt8) (hX : X = [] ∨ ∃ Y, X = 0 :: Y) : ∀ (l : List ByteArray) (a : List UInt8) (t : Tp) (f : Nat), (∀ r, r ∈ l → r.size ≤ 65536) → t.size = a.length → l.length < f → ldM (a ++ encAll t.head l ++ X) f t = some (t.adds l)
  | [], a, t, f, _, ht, hf => by
    obtain ⟨g, rfl⟩ : ∃ g, f = g + 1 := ⟨f - 1, by simp at hf; omega⟩
    rw [ldM, encAll, List.append_nil, ht]
    rcases hX with rfl | ⟨Y, rfl⟩
    · rw [List.append_nil, List.getElem?_eq_none (Nat.le_refl _)]; rfl
    · rw [List.getElem?_append_right (Nat.le_refl _), Nat.sub_self]; rfl
  | r :: l, a, t, f, hr, ht, hf => by
    obtain ⟨g, rfl⟩ : ∃ g, f = g + 1 := ⟨f - 1, by simp at hf; omega⟩
    have e0 : (a ++ encAll t.head (r :: l) ++ X)[t.size]? = some 1 := by
      rw [encAll, recL, ht, List.append_assoc, List.getElem?_append_right (Nat.le_refl _), Nat.sub_self]; rfl
    have es : a ++ encAll t.head (r :: l) ++ X = (a ++ [1]) ++ putS r ++ (bts (chainM t.head r) ++ (encAll (chainM t.head r) l ++ X)) := by simp [encAll, recL]
    have e1 : getS (a ++ encAll t.head (r :: l) ++ X) (t.size + 1) = some (bts r, a.length + 1 + (putS r).length) := by
      have h := getS_put (a ++ [1]) (bts (chainM t.head r) ++ (encAll (chainM t.head r) l ++ X)) r (hr r (by simp))
      rw [← es, List.length_append, List.length_singleton] at h
      rw [ht]; exact h
    rw [ldM, e0]
    dsimp only
    rw [if_neg (by decide), if_neg (by decide), e1]
    dsimp only
    rw [str_bts, if_neg (by simp [encAll, recL, bts_len, chainM_size]; omega)]
    rw [if_pos (by
      rw [ht, encAll, List.append_assoc, List.drop_left, List.append_assoc, List.take_left' (by rw [recL_len]; omega)])]
    have ih := ldM_encX X hX l (a ++ recL t.head r) (t.add r) g (fun x hx => hr x (by simp [hx])) (by simp [Tp.add, ht]) (by simp at hf; omega)
    rw [show a ++ encAll t.head (r :: l) ++ X = a ++ recL t.head r ++ encAll (t.add r).head l ++ X by simp [encAll, Tp.add]]
    rw [ih]; rfl
theorem openM_encX (X : List UInt8) (hX : X = [] ∨ ∃ Y, X = 0 :: Y) (l : List ByteArray) (h : ∀ r, r ∈ l → r.size ≤ 65536) : openM (encAll head0 l ++ X) = some (tp0.adds l) :=
  ldM_encX X hX l [] tp0 _ h rfl (by have := encAll_len l head0; simp only [List.length_append]; show l.length < (encAll head0 l).length + X.length + 1; omega)

theorem all_zero {Y : List UInt8} (h : Y.all (· == 0) = true) : Y = List.replicate Y.length 0 := by
  rw [List.all_eq_true] at h
  exact List.eq_replicate_of_mem fun x hx => by simpa using h x hx
/-- Open makes clean what lies behind the records. -/
theorem opens_dirty {D : Dk} {L : List ByteArray} {X : List UInt8} (ho : D.off = false) (hl : D.left = 0) (hd : D.dur = D.vis) (hp : D.pend = []) (hX : X = [] ∨ ∃ Y, X = 0 :: Y) (hv : D.vis = encAll head0 L ++ X) (hs : ∀ r, r ∈ L → r.size ≤ 65536) :
    ∃ D', D.opens = (0, some (tp0.adds L), D') ∧ Clean D' L ∧ D'.dur.length = D.dur.length := by
  have h1 : openM D.vis = some (tp0.adds L) := by rw [hv]; exact openM_encX X hX L hs
  have hsz := tpL_size L
  have h2 : D.vis.drop (tp0.adds L).size = X := by rw [hv, hsz, List.drop_left]
  by_cases hz : X.all (· == 0) = true
  · refine ⟨D, ?_, ⟨ho, hl, hd, hp, ⟨X.length, by rw [hv]; congr 1; exact all_zero hz⟩, hs⟩, rfl⟩
    simp only [Dk.opens, ho, h1, h2, hz, if_true]
    rfl
  · have hlen : D.vis.length = (encAll head0 L).length + X.length := by rw [hv, List.length_append]
    have w1 := writeU (D := D) (o := ((tp0.adds L).size : Int)) (s := zeros (D.vis.length - (tp0.adds L).size)) ho hl (by omega) (by
      show _ + (zeros _).size ≤ _
      rw [zeros, str_size, List.length_replicate, hd]; omega)
    rw [Int.toNat_natCast] at w1
    have s1 : (D.put (tp0.adds L).size (zeros (D.vis.length - (tp0.adds L).size))).syncE = 0 := by simp [Dk.syncE, Dk.put, ho]
    have s2 : (D.put (tp0.adds L).size (zeros (D.vis.length - (tp0.adds L).size))).syncD = (D.put (tp0.adds L).size (zeros (D.vis.length - (tp0.adds L).size))).sync := by simp [Dk.syncD, Dk.put, ho]
    have hr : D.runs [.write (tp0.adds L).size (zeros (D.vis.length - (tp0.adds L).size)), .sync] = (0, (D.put (tp0.adds L).size (zeros (D.vis.length - (tp0.adds L).size))).sync) := by
      simp only [Dk.runs, Dk.doE, Dk.doD, w1.1, w1.2, s1, s2, if_true]
    have hvis : paste D.vis (tp0.adds L).size (List.replicate (D.vis.length - (tp0.adds L).size) 0) = encAll head0 L ++ List.replicate X.length 0 := by
      unfold paste
      rw [hsz, hlen, hv, List.take_left, Nat.add_sub_cancel_left, List.length_replicate, List.drop_eq_nil_of_le (by simp), List.append_nil]
    refine ⟨(D.put (tp0.adds L).size (zeros (D.vis.length - (tp0.adds L).size))).sync, ?_, ⟨ho, hl, rfl, rfl, ⟨X.length, hvis⟩, hs⟩, ?_⟩
    · simp only [Dk.opens, ho, h1, h2, hz, hr, if_true]
      rfl
    · show (paste D.vis (tp0.adds L).size (List.replicate (D.vis.length - (tp0.adds L).size) 0)).length = _
      rw [hvis, hd, hlen, List.length_append, List.length_replicate]

end Go.Proofs.YtbogljpafpkikaaGreatDoor

/-
  The journal's laws about power failures, the plain part: Append while the power is to fail.
-/
namespace Go.Proofs.YtbogljpafpkikaaGreatDoor
open Go.RowKit Go.Lib

/-- A clean disk of which the power fails after c further writes. -/
def Dk.failing (D : Dk) (c : Nat) : Dk := { D with left := c }
theorem writeC {D : Dk} (h : D.off = false) {o : Int} {s : ByteArray} (h0 : 0 ≤ o) (hs : o.toNat + s.size ≤ D.dur.length) : D.writeE o s = 0 ∧ D.writeD o s = (D.put o.toNat s).use := by
  have hi : insB D.dur.length o s.size = true := by simp [insB]; omega
  exact ⟨by simp [Dk.writeE, h, hi], by simp [Dk.writeD, h, hi, Dk.write]⟩
theorem use_one (D : Dk) (h : D.left = 1) : D.use = { D with left := 0, off := true } := by simp [Dk.use, h]
theorem use_more (D : Dk) (c : Nat) (h : D.left = c + 2) : D.use = { D with left := c + 1, off := false } := by simp [Dk.use, h]
/-- The first write is the last. -/
theorem runs_cut1 {D : Dk} (ho : D.off = false) (hl : D.left = 1) {p : Nat} {E : ByteArray} {y : ByteArray} (hs : p + 1 + E.size ≤ D.dur.length) :
    D.runs [.write ((p : Int) + 1) E, .sync, .write p y, .sync] = (91, { D.put (p + 1) E with left := 0, off := true }) := by
  have w := writeC ho (o := (p : Int) + 1) (s := E) (by omega) (by omega)
  rw [show ((p : Int) + 1).toNat = p + 1 by omega, use_one _ (show (D.put (p + 1) E).left = 1 from hl)] at w
  simp only [Dk.runs, Dk.doE, Dk.doD, w.1, w.2, if_true]
  simp [Dk.syncE, Dk.syncD]
/-- The second write is the last. -/
theorem runs_cut2 {D : Dk} (ho : D.off = false) (hl : D.left = 2) (hd : D.dur.length = D.vis.length) {p : Nat} {E : ByteArray} {y : ByteArray} (hs : p + 1 + E.size ≤ D.dur.length) (hy : y.size = 1) :
    D.runs [.write ((p : Int) + 1) E, .sync, .write p y, .sync] = (91, { ({ (D.put (p + 1) E).sync with left := 1, off := false } : Dk).put p y with left := 0, off := true }) := by
  have w := writeC ho (o := (p : Int) + 1) (s := E) (by omega) (by omega)
  rw [show ((p : Int) + 1).toNat = p + 1 by omega, use_more _ 0 (show (D.put (p + 1) E).left = 0 + 2 from hl)] at w
  have s1 : ({ D.put (p + 1) E with left := 0 + 1, off := false } : Dk).syncE = 0 := by simp [Dk.syncE]
  have s2 : ({ D.put (p + 1) E with left := 0 + 1, off := false } : Dk).syncD = { (D.put (p + 1) E).sync with left := 1, off := false } := by simp [Dk.syncD, Dk.sync]
  have hlen : (paste D.vis (p + 1) E.data.toList).length = D.vis.length := paste_length _ _ _ (by show p + 1 + E.size ≤ _; omega)
  have w2 := writeC (D := { (D.put (p + 1) E).sync with left := 1, off := false }) rfl (o := (p : Int)) (s := y) (by omega) (by
    rw [Int.toNat_natCast, hy]
    show p + 1 ≤ (paste D.vis (p + 1) E.data.toList).length
    rw [hlen]; omega)
  rw [Int.toNat_natCast, use_one _ rfl] at w2
  simp only [Dk.runs, Dk.doE, Dk.doD, w.1, w.2, s1, s2, w2.1, w2.2, if_true]
  simp [Dk.syncE, Dk.syncD]

/-- The third write would be the last: all is well. -/
theorem runs_cut3 {D : Dk} (ho : D.off = false) (hl : D.left = 3) (hd : D.dur.length = D.vis.length) {p : Nat} {E : ByteArray} {y : ByteArray} (hs : p + 1 + E.size ≤ D.dur.length) (hy : y.size = 1) :
    D.runs [.write ((p : Int) + 1) E, .sync, .write p y, .sync] = (0, ({ ({ (D.put (p + 1) E).sync with left := 2, off := false } : Dk).put p y with left := 1, off := false } : Dk).sync) := by
  have w := writeC ho (o := (p : Int) + 1) (s := E) (by omega) (by omega)
  rw [show ((p : Int) + 1).toNat = p + 1 by omega, use_more _ 1 (show (D.put (p + 1) E).left = 1 + 2 from hl)] at w
  have s1 : ({ D.put (p + 1) E with left := 1 + 1, off := false } : Dk).syncE = 0 := by simp [Dk.syncE]
  have s2 : ({ D.put (p + 1) E with left := 1 + 1, off := false } : Dk).syncD = { (D.put (p + 1) E).sync with left := 2, off := false } := by simp [Dk.syncD, Dk.sync]
  have hlen : (paste D.vis (p + 1) E.data.toList).length = D.vis.length := paste_length _ _ _ (by show p + 1 + E.size ≤ _; omega)
  have w2 := writeC (D := { (D.put (p + 1) E).sync with left := 2, off := false }) rfl (o := (p : Int)) (s := y) (by omega) (by
    rw [Int.toNat_natCast, hy]
    show p + 1 ≤ (paste D.vis (p + 1) E.data.toList).length
    rw [hlen]; omega)
  rw [Int.toNat_natCast, use_more _ 0 rfl] at w2
  simp only [Dk.runs, Dk.doE, Dk.doD, w.1, w.2, s1, s2, w2.1, w2.2, if_true]
  simp [Dk.syncE, Dk.syncD]
/-- What is written behind a zero byte leaves the records. -/
theorem paste_behind (a R E : List UInt8) : paste (a ++ 0 :: R) (a.length + 1) E = a ++ 0 :: paste R 0 E := by
  unfold paste
  rw [List.take_append, List.take_of_length_le (by omega), show a.length + 1 - a.length = 1 by omega, List.drop_append, List.drop_eq_nil_of_le (by omega), show a.length + 1 + E.length - a.length = E.length + 1 by omega]
  simp
/-- The first byte makes the records count. -/
theorem paste_first (a R : List UInt8) (x y : UInt8) : paste (a ++ x :: R) a.length [y] = a ++ y :: R := by
  unfold paste
  rw [List.take_left, List.length_singleton, ← List.drop_drop, List.drop_left]
  simp

end Go.Proofs.YtbogljpafpkikaaGreatDoor

/-
  The journal's laws about power failures, the plain part: what a crash leaves.
-/
namespace Go.Proofs.YtbogljpafpkikaaGreatDoor
open Go.RowKit Go.Lib

/-! ### A crash with no or one pending write -/
theorem survL_zero (keep : List Int) : survL 0 keep = [] := by
  apply List.eq_nil_iff_forall_not_mem.2
  intro x hx
  have := survL_mem hx
  omega
theorem crash_vis (D : Dk) (keep : List Int) (torn : Int) : (D.crash keep torn).vis = crashTo D (survL D.pend.length keep) torn (survL D.pend.length keep).length := rfl
theorem crash_none {D : Dk} (h : D.pend = []) (keep : List Int) (torn : Int) : (D.crash keep torn).vis = D.dur := by
  rw [crash_vis, h, List.length_nil, survL_zero]
  rfl
theorem getD_zero {l : List Int} (hl : ∀ x, x ∈ l → x = 0) (k : Nat) : l.getD k 0 = 0 := by
  rw [List.getD_eq_getElem?_getD]
  cases h : l[k]? with
  | none => rfl
  | some x => exact hl x (List.mem_of_getElem? h)
theorem survS_one (o : Nat) (s : ByteArray) {l : List Int} (hl : ∀ x, x ∈ l → x = 0) (torn : Int) (k : Nat) : ∃ n, survS [(o, s)] l torn k = (o, s.extract 0 n) := by
  unfold survS
  rw [getD_zero hl]
  simp only [Int.toNat_zero, List.getD_cons_zero]
  split
  · exact ⟨_, rfl⟩
  · exact ⟨s.size, by simp⟩
theorem crashTo_one {D : Dk} {o : Nat} {s : ByteArray} (hp : D.pend = [(o, s)]) {l : List Int} (hl : ∀ x, x ∈ l → x = 0) (torn : Int) (P : List UInt8 → Prop) (h0 : P D.dur) (hs : ∀ v n, P v → P (paste v o (s.data.toList.take n))) : ∀ k, P (crashTo D l torn k)
  | 0 => h0
  | k + 1 => by
    obtain ⟨n, hn⟩ := survS_one o s hl torn k
    rw [crashTo, hp, hn]
    have := hs _ n (crashTo_one hp hl torn P h0 hs k)
    simpa [ByteArray.data_extract, Array.toList_extract, List.extract] using this
theorem crash_one {D : Dk} {o : Nat} {s : ByteArray} (hp : D.pend = [(o, s)]) (keep : List Int) (torn : Int) (P : List UInt8 → Prop) (h0 : P D.dur) (hs : ∀ v n, P v → P (paste v o (s.data.toList.take n))) : P (D.crash keep torn).vis := by
  rw [crash_vis]
  refine crashTo_one hp (fun x hx => ?_) torn P h0 hs _
  have := survL_mem hx
  rw [hp, List.length_singleton] at this
  omega

/-- Whatever survives a crash, the disk then holds A or B. -/
structure Hurt (D : Dk) (A B : List ByteArray) : Prop where
  few : D.pend.length ≤ 1
  surv : ∀ keep torn, ∃ L X, (L = A ∨ L = B) ∧ (X = [] ∨ ∃ Y, X = 0 :: Y) ∧ (D.crash keep torn).vis = encAll head0 L ++ X
  smallA : ∀ r, r ∈ A → r.size ≤ 65536
  smallB : ∀ r, r ∈ B → r.size ≤ 65536
theorem Hurt.opens {D : Dk} {A B : List ByteArray} (h : Hurt D A B) (hD : D.Ok) (keep : List Int) (torn : Int) : ∃ L D', (L = A ∨ L = B) ∧ (D.crash keep torn).opens = (0, some (tp0.adds L), D') ∧ Clean D' L ∧ D'.dur.length = D.dur.length := by
  obtain ⟨L, X, hL, hX, hv⟩ := h.surv keep torn
  obtain ⟨D', h1, h2, h3⟩ := opens_dirty (D := D.crash keep torn) rfl rfl rfl rfl hX hv (by
    rcases hL with rfl | rfl
    · exact h.smallA
    · exact h.smallB)
  exact ⟨L, D', hL, h1, h2, by rw [h3]; exact crashTo_length hD keep torn _ (Nat.le_refl _)⟩

/-- A clean disk of which the power may be to fail. -/
def CleanL (D : Dk) (L : List ByteArray) : Prop := Clean { D with left := 0 } L
theorem Clean.any {D : Dk} {L : List ByteArray} (h : Clean D L) : CleanL D L := ⟨h.off, rfl, h.dur, h.pend, h.vis, h.small⟩
theorem CleanL.clean {D : Dk} {L : List ByteArray} (h : CleanL D L) (h0 : D.left = 0) : Clean D L := ⟨h.off, h0, h.dur, h.pend, h.vis, h.small⟩
theorem CleanL.cut {D : Dk} {L : List ByteArray} (h : CleanL D L) (n : Nat) (hn : n ≠ 0) : CleanL (D.cut n) L := ⟨by simp [Dk.cut, hn], rfl, h.dur, h.pend, h.vis, h.small⟩
theorem zeros_behind (z : Nat) : List.replicate z (0 : UInt8) = [] ∨ ∃ Y, List.replicate z (0 : UInt8) = 0 :: Y := by
  cases z with
  | zero => exact .inl rfl
  | succ z => exact .inr ⟨List.replicate z 0, rfl⟩
theorem CleanL.hurt {D : Dk} {L : List ByteArray} (h : CleanL D L) : Hurt D L L := by
  have hp : D.pend = [] := h.pend
  have hd : D.dur = D.vis := h.dur
  obtain ⟨z, hv⟩ := h.vis
  exact ⟨by rw [hp]; simp, fun keep torn => ⟨L, _, .inl rfl, zeros_behind z, by rw [crash_none hp, hd]; exact hv⟩, h.small, h.small⟩

/-- Two writes and more are left. -/
theorem runs_more {D : Dk} {c : Nat} (ho : D.off = false) (hl : D.left = c + 3) (hd : D.dur.length = D.vis.length) {p : Nat} {E : ByteArray} {y : ByteArray} (hs : p + 1 + E.size ≤ D.dur.length) (hy : y.size = 1) :
    D.runs [.write ((p : Int) + 1) E, .sync, .write p y, .sync] = (0, ({ ({ (D.put (p + 1) E).sync with left := c + 2, off := false } : Dk).put p y with left := c + 1, off := false } : Dk).sync) := by
  have w := writeC ho (o := (p : Int) + 1) (s := E) (by omega) (by omega)
  rw [show ((p : Int) + 1).toNat = p + 1 by omega, use_more _ (c + 1) (show (D.put (p + 1) E).left = c + 1 + 2 from hl)] at w
  have s1 : ({ D.put (p + 1) E with left := c + 1 + 1, off := false } : Dk).syncE = 0 := by simp [Dk.syncE]
  have s2 : ({ D.put (p + 1) E with left := c + 1 + 1, off := false } : Dk).syncD = { (D.put (p + 1) E).sync with left := c + 2, off := false } := by simp [Dk.syncD, Dk.sync]
  have hlen : (paste D.vis (p + 1) E.data.toList).length = D.vis.length := paste_length _ _ _ (by show p + 1 + E.size ≤ _; omega)
  have w2 := writeC (D := { (D.put (p + 1) E).sync with left := c + 2, off := false }) rfl (o := (p : Int)) (s := y) (by omega) (by
    rw [Int.toNat_natCast, hy]
    show p + 1 ≤ (paste D.vis (p + 1) E.data.toList).length
    rw [hlen]; omega)
  rw [Int.toNat_natCast, use_more _ c rfl] at w2
  simp only [Dk.runs, Dk.doE, Dk.doD, w.1, w.2, s1, s2, w2.1, w2.2, if_true]
  simp [Dk.syncE, Dk.syncD]

/-- What Append does where the power may be to fail: all, nothing, or the power fails. -/
structure Pow (D : Dk) (L l : List ByteArray) (n : Int) (L' : List ByteArray) (br : Bool) (D' : Dk) : Prop where
  len : D'.dur.length = D.dur.length
  fit : encN L' ≤ D.dur.length
  left : D.left = 0 → D'.left = 0 ∧ br = false
  way : (n = 0 ∧ L' = L ++ l ∧ br = false ∧ CleanL D' L') ∨ (n = 101 ∧ L' = L ∧ br = false ∧ D' = D) ∨ (n = 91 ∧ L' = L ∧ br = true ∧ D'.off = true ∧ Hurt D' L (L ++ l) ∧ encN (L ++ l) ≤ D.dur.length)
theorem hurt_one {D' : Dk} {a : List UInt8} {A B : List ByteArray} {R : List UInt8} {E : ByteArray} (ha : a = encAll head0 A) (hp : D'.pend = [(a.length + 1, E)]) (hd : D'.dur = a ++ 0 :: R) (hA : ∀ r, r ∈ A → r.size ≤ 65536) (hB : ∀ r, r ∈ B → r.size ≤ 65536) : Hurt D' A B := by
  refine ⟨by rw [hp]; simp, fun keep torn => ?_, hA, hB⟩
  have h := crash_one hp keep torn (fun v => ∃ Y, v = a ++ 0 :: Y) ⟨R, hd⟩ (fun v n hv => by
    obtain ⟨Y, rfl⟩ := hv
    exact ⟨_, paste_behind a Y _⟩)
  obtain ⟨Y, hY⟩ := h
  exact ⟨A, _, .inl rfl, .inr ⟨Y, rfl⟩, by rw [hY, ha]⟩
theorem hurt_two {D' : Dk} {a b : List UInt8} {A B : List ByteArray} {R : List UInt8} {y : UInt8} {z : Nat} (ha : a = encAll head0 A) (hp : D'.pend = [(a.length, str [y])]) (hd : D'.dur = a ++ 0 :: R) (hb : b = encAll head0 B) (hy : a ++ y :: R = b ++ List.replicate z 0) (hA : ∀ r, r ∈ A → r.size ≤ 65536) (hB : ∀ r, r ∈ B → r.size ≤ 65536) : Hurt D' A B := by
  refine ⟨by rw [hp]; simp, fun keep torn => ?_, hA, hB⟩
  have h := crash_one hp keep torn (fun v => ∃ x, (x = 0 ∨ x = y) ∧ v = a ++ x :: R) ⟨0, .inl rfl, hd⟩ (fun v n hv => by
    obtain ⟨x, hx, rfl⟩ := hv
    cases n with
    | zero => exact ⟨x, hx, by simp [paste]⟩
    | succ n => exact ⟨y, .inr rfl, by
        have e : (str [y]).data.toList.take (n + 1) = [y] := by simp [str]
        rw [e, paste_first]⟩)
  obtain ⟨x, hx, hv⟩ := h
  rcases hx with rfl | rfl
  · exact ⟨A, _, .inl rfl, .inr ⟨R, rfl⟩, by rw [hv, ha]⟩
  · exact ⟨B, _, .inr rfl, zeros_behind z, by rw [hv, hy, hb]⟩

theorem append_pow {D : Dk} {L : List ByteArray} (h : CleanL D L) (hL : encN L ≤ D.dur.length) (l : List ByteArray) (hl : l.any longB = false) : ∃ n L' br D', D.apps (tp0.adds L) false l = (n, tp0.adds L', br, D') ∧ Pow D L l n L' br D' := by
  have ho : D.off = false := h.off
  have hdv : D.dur = D.vis := h.dur
  have hpe : D.pend = [] := h.pend
  have hsm : ∀ r, r ∈ L ++ l → r.size ≤ 65536 := fun r hr => by
    rcases List.mem_append.1 hr with h' | h'
    · exact h.small r h'
    · exact not_long hl h'
  have hsz := tpL_size L
  by_cases hfit : (encAll head0 (L ++ l)).length ≤ D.dur.length
  · by_cases h0 : D.left = 0
    · obtain ⟨D', h1, h2, h3⟩ := clean_fit (h.clean h0) l hl hfit
      exact ⟨_, _, _, D', h1, h3, by rw [← enc_size _ head0]; exact hfit, fun _ => ⟨h2.left, rfl⟩, .inl ⟨rfl, rfl, rfl, h2.any⟩⟩
    · have hle := hfit
      rw [enc_L, List.length_append] at hle
      by_cases hn : l = []
      · subst hn
        refine ⟨0, L, false, D, ?_, rfl, hL, fun h => absurd h h0, .inl ⟨rfl, by rw [List.append_nil], rfl, h⟩⟩
        simp only [Dk.apps, hl, Bool.or_self, Bool.false_eq_true, if_false, if_true]
        rw [if_neg (by simp [encAll]; omega)]
      · obtain ⟨z, hv⟩ := h.vis
        have hv : D.vis = encAll head0 L ++ List.replicate z 0 := hv
        obtain ⟨y, E, hE⟩ : ∃ y E, encAll (tp0.adds L).head l = y :: E := by
          cases hE : encAll (tp0.adds L).head l with
          | nil =>
            have := encAll_len l (tp0.adds L).head
            rw [hE] at this
            exact absurd (List.eq_nil_of_length_eq_zero (by simpa using this)) hn
          | cons y E => exact ⟨y, E, rfl⟩
        rw [hE, List.length_cons] at hle
        have hdl : D.dur.length = (encAll head0 L).length + z := by rw [hdv, hv]; simp
        obtain ⟨m, rfl⟩ : ∃ m, z = m + 1 := ⟨z - 1, by omega⟩
        have hv1 : D.vis = encAll head0 L ++ 0 :: List.replicate m 0 := by rw [hv, List.replicate_succ]
        have hfitE : (tp0.adds L).size + 1 + (str E).size ≤ D.dur.length := by rw [hsz, str_size]; omega
        have hy1 : (str [y]).size = 1 := rfl
        have hp2 : paste (paste D.vis ((tp0.adds L).size + 1) E) (tp0.adds L).size [y] = encAll head0 (L ++ l) ++ List.replicate (m + 1 - (E.length + 1)) 0 := by
          rw [hv, hsz, paste_two _ _ _ _ (by omega), enc_L, hE]
        have hp1 : paste D.vis ((tp0.adds L).size + 1) E = encAll head0 L ++ 0 :: paste (List.replicate m 0) 0 E := by
          rw [hv1, hsz, paste_behind]
        have happ : D.apps (tp0.adds L) false l = if (D.runs [.write (((tp0.adds L).size : Int) + 1) (str E), .sync, .write (tp0.adds L).size (str [y]), .sync]).1 = 0 then (0, (tp0.adds L).adds l, false, (D.runs [.write (((tp0.adds L).size : Int) + 1) (str E), .sync, .write (tp0.adds L).size (str [y]), .sync]).2)
            else ((D.runs [.write (((tp0.adds L).size : Int) + 1) (str E), .sync, .write (tp0.adds L).size (str [y]), .sync]).1, tp0.adds L, true, (D.runs [.write (((tp0.adds L).size : Int) + 1) (str E), .sync, .write (tp0.adds L).size (str [y]), .sync]).2) := by
          simp only [Dk.apps, hl, Bool.or_self, Bool.false_eq_true, if_false, hE, List.drop_succ_cons, List.drop_zero, List.take_succ_cons, List.take_zero]
          rw [if_neg (by simp; omega), if_neg hn]
        have hlv : D.dur.length = D.vis.length := by rw [hdv]
        match hc : D.left with
        | 0 => exact absurd hc h0
        | 1 =>
          rw [runs_cut1 ho hc hfitE, if_neg (show ¬ ((91 : Int) = 0) by decide)] at happ
          refine ⟨_, L, _, _, happ, rfl, hL, fun h => by omega, .inr (.inr ⟨rfl, rfl, rfl, rfl, ?_, by rw [← enc_size _ head0]; exact hfit⟩)⟩
          exact hurt_one (a := encAll head0 L) (R := List.replicate m 0) (E := str E) rfl (by simp [Dk.put, hpe, hsz]) (by show D.dur = _; rw [hdv, hv1]) h.small hsm
        | 2 =>
          rw [runs_cut2 ho hc hlv hfitE hy1, if_neg (show ¬ ((91 : Int) = 0) by decide)] at happ
          refine ⟨_, L, _, _, happ, ?_, hL, fun h => by omega, .inr (.inr ⟨rfl, rfl, rfl, rfl, ?_, by rw [← enc_size _ head0]; exact hfit⟩)⟩
          · show (paste D.vis ((tp0.adds L).size + 1) E).length = _
            rw [paste_length _ _ _ (by rw [← hlv]; rw [str_size] at hfitE; exact hfitE), hlv]
          · refine hurt_two (a := encAll head0 L) (R := paste (List.replicate m 0) 0 E) (y := y) (z := m + 1 - (E.length + 1)) rfl (by simp [Dk.put, Dk.sync, hsz]) hp1 rfl ?_ h.small hsm
            rw [← hp2, hp1, hsz, paste_first]
        | c + 3 =>
          rw [runs_more ho hc hlv hfitE hy1, if_pos rfl, ← adds_append] at happ
          refine ⟨_, _, _, _, happ, ?_, by rw [← enc_size _ head0]; exact hfit, fun h => by omega, .inl ⟨rfl, rfl, rfl, ?_⟩⟩
          · show (paste (paste D.vis ((tp0.adds L).size + 1) E) (tp0.adds L).size [y]).length = _
            rw [hp2, List.length_append, List.length_replicate, enc_L, hE, hdl]
            simp; omega
          · exact ⟨rfl, rfl, rfl, rfl, ⟨_, hp2⟩, hsm⟩
  · exact ⟨101, L, false, D, by
      rw [enc_L, List.length_append] at hfit
      simp only [Dk.apps, hl, Bool.or_self, Bool.false_eq_true, if_false]
      rw [if_pos (by omega)], rfl, hL, fun h => ⟨h, rfl⟩, .inr (.inl ⟨rfl, rfl, rfl, rfl⟩)⟩

end Go.Proofs.YtbogljpafpkikaaGreatDoor

/-
  The journal's laws about power failures: a crash, and what is opened behind it.
-/
namespace Go.Proofs.YtbogljpafpkikaaGreatDoor
open Go.RowKit Go.Lib

theorem rowI_intsB {w : World} {a : Option Addr} {cap : Nat} {zs : List Int} (h : RowI w a cap zs) : IntsB w.heap.size w (.slice a zs.length cap) zs := by
  rcases Nat.eq_zero_or_pos zs.length with h0 | h0
  · have := List.eq_nil_of_length_eq_zero h0
    subst this
    exact .inl ⟨rfl, a, cap, rfl⟩
  · obtain ⟨b, off, rfl, hb, hc⟩ := h.cells h0
    exact .inr ⟨b, off, cap, rfl, hb, fun j hj => by rw [hc j hj]; simp [hj]⟩
theorem RowI.fr {w w' : World} {a : Option Addr} {cap : Nat} {zs : List Int} (h : RowI w a cap zs) (hf : Fr [] w w') : RowI w' a cap zs := h.keep hf.below
/-- What Crash leaves. -/
theorem crash_s {w0 w : World} {db : Nat} {fp : List Nat} {D : Dk} {js : List Jb} (h : JS w0 w db fp D js) (ka : Option Addr) (kc : Nat) (keep : List Int) (torn : Int) (hr : RowI w0 ka kc keep) (hk : keep.length ≤ 1000) (ht : -9223372036854775808 ≤ torn) (ht2 : torn ≤ 9223372036854775807) :
    Calls Tryz.prog 58 #[.pointer (some ⟨db, 0, none⟩), .slice ka keep.length kc, .int .i64 torn] w fun e w' => e = .returned (.int .i64 0) ∧ ∃ fp', JS w0 w' db fp' (D.crash keep torn) js ∧ Upd fp fp' w w' :=
  (crash_dk db fp _ D keep torn w h.disk (rowI_intsB (hr.fr h.fr)) (by omega) hr.wf ht ht2).mono fun _ _ ⟨he, fp', h1, h2⟩ => ⟨he, fp', h.upd h1 h2, h2⟩
/-- What Open leaves where it succeeds. -/
theorem open_u {w0 w : World} {db : Nat} {fp : List Nat} {D : Dk} {js : List Jb} {a : Addr} (h : JS w0 w db fp D js) (hR : RndAt w0) (hA : DmgAt w0 a) (hp : D.pend.length ≤ 4000000000) {t : Tp} {D' : Dk} (ho : D.opens = (0, some t, D')) :
    Calls Tryz.prog 23 #[.pointer (some ⟨db, 0, none⟩)] w fun e w' => ∃ jb vr fp', e = .returned (.tuple #[.pointer (some ⟨jb, 0, none⟩), .int .i64 0]) ∧ JS w0 w' db fp' D' (⟨jb, vr, t, false⟩ :: js) ∧ Upd fp fp' w w' ∧ ∀ k, k ∈ tpB jb vr → w.heap.size ≤ k := by
  refine (openJ_c a db fp D w h.disk (hR.same h.fr (by simp)) (hA.fr h.fr (by simp)) hp).mono ?_
  rw [ho]
  rintro e w' ⟨fp', h1, h2, jb, vr, h3, h4, h5⟩
  have hU := h.upd h1 h2
  refine ⟨jb, vr, fp', h3, ⟨hU.disk, hU.fr, hU.young, fun j hj => ?_⟩, h2, fun k hk => (h5 k hk).1⟩
  rcases List.mem_cons.1 hj with rfl | hj
  · exact ⟨h4, fun k hk => ⟨Nat.le_trans h.fr.size (h5 k hk).1, (h5 k hk).2⟩⟩
  · exact hU.js j hj
theorem JS.only {w0 w : World} {db : Nat} {fp : List Nat} {D : Dk} {js js' : List Jb} (h : JS w0 w db fp D js) (hs : ∀ j, j ∈ js' → j ∈ js) : JS w0 w db fp D js' := ⟨h.disk, h.fr, h.young, fun j hj => h.js j (hs j hj)⟩
theorem JS.ok {w0 w : World} {db : Nat} {fp : List Nat} {D : Dk} {js : List Jb} (h : JS w0 w db fp D js) : D.Ok := by
  obtain ⟨_, _, _, hd, _⟩ := h.disk
  exact hd.ok
theorem cut_s {w0 w : World} {db : Nat} {fp : List Nat} {D : Dk} {js : List Jb} (h : JS w0 w db fp D js) (n : Int) (hn : n ≤ 9223372036854775807) :
    Calls Tryz.prog 56 #[.pointer (some ⟨db, 0, none⟩), .int .i64 n] w fun e w' => e = .returned (.int .i64 (D.cutE n)) ∧ JS w0 w' db fp (D.cutD n) js ∧ Upd fp fp w w' :=
  (cut_dk db fp D n w h.disk hn).mono fun _ _ ⟨he, h1, f1⟩ => ⟨he, h.upd h1 ⟨f1, fun _ h => .inl h⟩, ⟨f1, fun _ h => .inl h⟩⟩
/-- A list of strings in memory, apart from a disk and its journal. -/
structure SlF (w : World) (v : Value) (l : List ByteArray) (f : List Nat) : Prop where
  sl : Sl w v l.length (l.map Value.string)
  far : Far w v f
theorem SlF.same {w w' : World} {v : Value} {l : List ByteArray} {f : List Nat} (h : SlF w v l f) (hf : Fr [] w w') : SlF w' v l f := ⟨h.sl.same hf, h.far.same hf⟩
theorem SlF.upd {w w' : World} {v : Value} {l : List ByteArray} {f1 f2 : List Nat} (h : SlF w v l f1) (hu : Upd f1 f2 w w') : SlF w' v l f2 := ⟨h.sl.upd h.far hu, h.far.upd hu⟩
theorem SlF.sub {w : World} {v : Value} {l : List ByteArray} {f1 f2 : List Nat} (h : SlF w v l f1) (hs : ∀ k, k ∈ f2 → k ∈ f1) : SlF w v l f2 := ⟨h.sl, fun g hg => ⟨fun hm => (h.far g hg).1 (hs g hm), (h.far g hg).2⟩⟩
theorem SlF.nil (w : World) (f : List Nat) : SlF w (.slice none 0 0) [] f := ⟨Sl.nil _, fun g hg => by cases hg⟩
theorem SlF.val {w : World} {v : Value} {l : List ByteArray} {f : List Nat} (h : SlF w v l f) : ∃ a c, v = .slice a l.length c := h.sl.val
theorem upd_jsB {jb : Nat} {vr : Value} {fp fp' : List Nat} {w w' : World} (hu : Upd fp fp' w w') : Upd (jsB jb vr fp) (jsB jb vr fp') w w' :=
  ⟨hu.fr.mono (fun k hk => by simp [jsB, hk]), fun k hk => by
    rcases List.mem_append.1 hk with h | h
    · exact .inl (by simp [jsB, h])
    · rcases hu.sub k h with h | h
      · exact .inl (by simp [jsB, h])
      · exact .inr h⟩

/-- A group of few records is appended where the power may be to fail. -/
theorem few_u {w0 w : World} {jb db : Nat} {fp : List Nat} {D : Dk} {vr : Value} {L : List ByteArray} {br : Bool} (h : JS w0 w db fp D [⟨jb, vr, tp0.adds L, br⟩]) (hR : RndAt w0) (l : List ByteArray) (a : Option Addr) (cap : Nat) (hs : Sl w (.slice a (fewM l).length cap) (fewM l).length ((fewM l).map Value.string))
    (hL : encN L ≤ D.dur.length) (hp : D.pend.length ≤ 4000000000) : Calls Tryz.prog 8 #[.pointer (some ⟨jb, 0, none⟩), .slice a (fewM l).length cap] w (AppU w0 jb db fp vr w (D.apps (tp0.adds L) br (fewM l))) := by
  have hl := fewM_len l
  refine app_u h hR (fewM l) a cap hs (by rw [enc_size]; exact hL) (by omega) (fun _ => ?_) hp
  have := enc_few (fewM l) (fun r hr => by have := fewM_size hr; omega) (tp0.adds L).head
  have : (fewM l).length * 65572 ≤ 6 * 65572 := Nat.mul_le_mul_right _ hl
  omega

/-- The records, in a row of their own. -/
theorem rec_r {w0 w : World} {db : Nat} {fp : List Nat} {D : Dk} {js : List Jb} {b : Nat} {vr : Value} {L : List ByteArray} {br : Bool} (h : JS w0 w db fp D js) (hj : ⟨b, vr, tp0.adds L, br⟩ ∈ js) (hl : L.length ≤ 1000000) :
    Calls Tryz.prog 17 #[.pointer (some ⟨b, 0, none⟩)] w fun e w' => ∃ a cap, e = .returned (.slice a L.length cap) ∧ w'.ownsRow 0 9 1 (.slice a L.length cap) L.length (L.map Value.string) ∧ Fr [] w w' ∧ ∀ g, (Value.slice a L.length cap).ownBlock = some g → w.heap.size ≤ g ∧ g < w'.heap.size := by
  refine (records_c (h.jn hj) (by rw [tpL_recs]; omega)).mono ?_
  rintro e w' ⟨v', rfl, h1, h2, h3⟩
  rw [tpL_recs] at h1
  obtain ⟨a, cap, rfl⟩ := (sl_of_row h1).val
  exact ⟨a, cap, rfl, h1, h3, fun g hg => ⟨h2 g hg, ownsRow_lt h1 hg⟩⟩
theorem len_le_enc (L : List ByteArray) : L.length ≤ encN L := by
  have := encAll_len L head0
  rw [enc_size] at this
  exact this
/-- What the law knows behind a round: what stands on the disk, what was and what is wanted. -/
structure SvP (m : Nat) (on : Prop) (D : Dk) (L : List ByteArray) (br : Bool) (A B : List ByteArray) : Prop where
  len : D.dur.length = m
  hurt : Hurt D A B
  fitA : encN A ≤ m
  fitB : encN B ≤ m
  up : on → br = false ∧ Clean D L ∧ encN L ≤ m

end Go.Proofs.YtbogljpafpkikaaGreatDoor
