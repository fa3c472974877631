/-
  A disk of a law's own: the steps with what may have changed; the content that is visible is the durable one with the pending writes; what a crash leaves.
-/
import Derived.Test.YtanjjgodlgmfcaaWDiskSynced
namespace Go.Proofs.Ytanjjgodlgmfcaa
open Go.RowKit Go.Lib

def OwnU (w w1 : World) (b : Nat) (fp : List Nat) (r : Value) (D : Dk) (e : Ending) (w' : World) : Prop := e = .returned r ∧ ∃ fp', Own w w' b fp' D ∧ Upd fp fp' w1 w'
theorem Own.stepU {w w1 w2 : World} {b : Nat} {fp : List Nat} {D D' : Dk} {r : Value} {e : Ending} (h : Own w w1 b fp D) (k : DkStep b fp r D' w1 e w2) : OwnU w w1 b fp r D' e w2 := by
  obtain ⟨he, fp', h1, h2⟩ := k
  exact ⟨he, fp', ⟨h1, h.fr.step h2.fr fun i hi => .inr (h.new i hi), fun i hi => by
    rcases h2.sub i hi with h3 | h3
    · exact h.new i h3
    · exact Nat.le_trans h.fr.size h3⟩, h2⟩
theorem Own.young {w w1 : World} {b : Nat} {fp : List Nat} {D : Dk} (h : Own w w1 b fp D) {k : Nat} (hk : w1.heap.size ≤ k) : k ∉ fp := fun hm => by have := h.at_.lt k hm; omega
theorem Upd.notin {fp fp' : List Nat} {w w' : World} (h : Upd fp fp' w w') {k : Nat} (h1 : k ∉ fp) (h2 : k < w.heap.size) : k ∉ fp' := fun hm => by
  rcases h.sub k hm with h | h
  · exact h1 h
  · omega
theorem writeU {w w1 : World} {b : Nat} {fp : List Nat} {D : Dk} (h : Own w w1 b fp D) (off : Int) (s : ByteArray) (ho : -9223372036854775808 ≤ off) (ho2 : off ≤ 9223372036854775807) (hs : s.size ≤ 9223372036854775807) (hp : D.pend.length ≤ 4294967296) :
    Calls Try.prog 21 #[.pointer (some ⟨b, 0, none⟩), .int .i64 off, .string s] w1 (OwnU w w1 b fp (.int .i64 (D.writeE off s)) (D.writeD off s)) :=
  (write_dk b fp D off s w1 h.at_ ho ho2 hs hp).mono fun _ _ k => h.stepU k
theorem syncU {w w1 : World} {b : Nat} {fp : List Nat} {D : Dk} (h : Own w w1 b fp D) : Calls Try.prog 23 #[.pointer (some ⟨b, 0, none⟩)] w1 (OwnU w w1 b fp (.int .i64 D.syncE) D.syncD) :=
  (sync_dk b fp D w1 h.at_).mono fun _ _ k => h.stepU k
theorem crashU {w w1 : World} {b : Nat} {fp : List Nat} {D : Dk} (h : Own w w1 b fp D) (sv : Value) (keep : List Int) (torn : Int) (hI : IntsB w1.heap.size w1 sv keep) (hreach : keep.length * 8 ≤ 140737488351232) (hwf : ∀ x, x ∈ keep → -9223372036854775808 ≤ x ∧ x ≤ 9223372036854775807)
    (ht : -9223372036854775808 ≤ torn) (ht2 : torn ≤ 9223372036854775807) :
    Calls Try.prog 25 #[.pointer (some ⟨b, 0, none⟩), sv, .int .i64 torn] w1 (OwnU w w1 b fp (.int .i64 0) (D.crash keep torn)) :=
  (crash_dk b fp sv D keep torn w1 h.at_ hI hreach hwf ht ht2).mono fun _ _ k => h.stepU k

/-! ### The visible content is the durable one after all pending writes -/
def apply1 (acc : List UInt8) (p : Nat × ByteArray) : List UInt8 := paste acc p.1 p.2.data.toList
def Dk.coh (D : Dk) : Prop := D.vis = D.pend.foldl apply1 D.dur
theorem coh_new (n : Nat) : (Dk.new n).coh := rfl
theorem coh_put {D : Dk} (h : D.coh) (o : Nat) (s : ByteArray) : (D.put o s).coh := by
  unfold Dk.coh at *
  simp only [Dk.put, List.foldl_append, List.foldl_cons, List.foldl_nil, ← h, apply1]
theorem coh_sync (D : Dk) : D.sync.coh := rfl

/-- 0, 1, .. , k - 1 -/
def iotaI (k : Nat) : List Int := (List.range k).map fun (i : Nat) => (i : Int)
theorem iotaI_length (k : Nat) : (iotaI k).length = k := by simp [iotaI]
theorem iotaI_succ (k : Nat) : iotaI (k + 1) = iotaI k ++ [(k : Int)] := by simp [iotaI, List.range_succ]
theorem iotaI_get (k j : Nat) (h : j < (iotaI k).length) : (iotaI k)[j] = (j : Int) := by simp [iotaI]
theorem iotaI_mem {k : Nat} {x : Int} (h : x ∈ iotaI k) : 0 ≤ x ∧ x < k := by
  obtain ⟨j, hj, rfl⟩ := List.mem_map.1 h
  have : j < k := by simpa using hj
  omega

theorem sortI_of_sorted {l : List Int} (h : l.Pairwise (· < ·)) : sortI l = l := by
  unfold sortI
  refine List.mergeSort_of_pairwise ?_
  exact h.imp fun {a b} (hab : a < b) => by simp; omega

theorem compact_of_sorted {l : List Int} (h : l.Pairwise (· < ·)) : Lib.compact l = l := by
  refine Lib.compact_all l fun j hj => ?_
  rcases Nat.eq_zero_or_pos j with rfl | h0
  · exact Lib.keeps_lt_one _ 0 (by omega)
  · refine Lib.keeps_pos ?_
    have hlt : l[j - 1] < l[j] := List.pairwise_iff_getElem.1 h (j - 1) j (by omega) hj (by omega)
    rw [getElem!_pos l.toArray j (by simpa using hj), getElem!_pos l.toArray (j - 1) (by simp; omega)]
    simp only [List.getElem_toArray]
    omega

theorem survL_sorted {m : Nat} {l : List Int} (h : l.Pairwise (· < ·)) (hm : ∀ x, x ∈ l → 0 ≤ x ∧ x < m) : survL m l = l := by
  unfold survL
  rw [sortI_of_sorted h, compact_of_sorted h]
  refine List.filter_eq_self.2 fun x hx => ?_
  have := hm x hx
  simp [outP]
  omega

theorem iotaI_sorted (k : Nat) : (iotaI k).Pairwise (· < ·) := by
  rw [List.pairwise_iff_getElem]
  intro i j hi hj hij
  rw [iotaI_get, iotaI_get]
  omega

theorem survL_iota (m : Nat) : survL m (iotaI m) = iotaI m := survL_sorted (iotaI_sorted m) fun _ hx => iotaI_mem hx

/-- All survive, none torn. -/
theorem crash_all {D : Dk} (h : D.coh) : D.crash (iotaI D.pend.length) (-1) = ⟨false, 0, D.vis, D.vis, []⟩ := by
  have key : ∀ k, k ≤ D.pend.length → crashTo D (iotaI D.pend.length) (-1) k = (D.pend.take k).foldl apply1 D.dur := by
    intro k
    induction k with
    | zero => intro _; rfl
    | succ k ih =>
      intro hk
      rw [crashTo, ih (by omega), List.take_succ_eq_append_getElem (by omega), List.foldl_append]
      have hs : survS D.pend (iotaI D.pend.length) (-1) k = D.pend[k] :=
        survS_plain (i := k) (by rw [iotaI_length]; omega) (iotaI_get _ _ _) (by omega) (by omega)
      rw [hs]
      rfl
  unfold Dk.crash
  rw [survL_iota]
  simp only [iotaI_length]
  rw [key _ (Nat.le_refl _), List.take_length, ← h]

theorem intsB_of_row {w : World} {v : Value} {xs : List Int} (h : w.ownsRow 0 3 1 v xs.length (xs.map (Value.int .i64))) : IntsB w.heap.size w v xs := by
  rcases h.2 with ⟨rfl, h0⟩ | ⟨g, cap, cur, rfl, _, hg, r1, r2, r3, r4⟩
  · exact .inl ⟨List.eq_nil_of_length_eq_zero h0, none, 0, rfl⟩
  · refine .inr ⟨g, 0, cap, rfl, blk_lt hg, fun j hj => ?_⟩
    have e1 : (cur.toList.take (xs.length * 1))[j]? = cur.toList[j]? := List.getElem?_take_of_lt (by omega)
    rw [Nat.zero_add, cell_of_blk hg, ← Array.getElem?_toList, ← e1, r4]
    simp [hj]

/-- The facts on a disk in a law's loop. -/
structure Dk.Fine (D : Dk) (n k : Nat) : Prop where
  up : D.up
  coh : D.coh
  dur : D.dur.length = n
  vis : D.vis.length = n
  pend : D.pend.length ≤ k
theorem fine_new (n : Nat) : (Dk.new n).Fine n 0 := ⟨up_new n, coh_new n, by simp [Dk.new], by simp [Dk.new], by simp [Dk.new]⟩
theorem fine_put {D : Dk} {n k : Nat} (h : D.Fine n k) {o : Nat} {s : ByteArray} (hs : o + s.size ≤ n) : (D.put o s).Fine n (k + 1) :=
  ⟨put_up h.up o s, coh_put h.coh o s, h.dur, by simp only [Dk.put]; rw [paste_length _ _ _ (by rw [h.vis]; simpa using hs)]; exact h.vis, by simp [Dk.put]; exact h.pend⟩
theorem fine_sync {D : Dk} {n k : Nat} (h : D.Fine n k) : D.sync.Fine n k := ⟨(sync_up h.up).2.2, coh_sync D, h.vis, h.vis, by simp [Dk.sync]⟩

end Go.Proofs.Ytanjjgodlgmfcaa
