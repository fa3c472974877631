/-
  The frame of a law's proof: an argument that nobody has written reads as it did.
-/
import Derived.Test.YtbogljpafpkikaaGreatDoorRows
import Derived.Test.YtbogljpafpkikaaGreatDoorQBa
import Derived.ProofKit
import Derived.OpenShut
import Derived.ShutString
import Derived.Deep.Slices
import Derived.Deep.Fields
namespace Go.Proofs.YtbogljpafpkikaaGreatDoor
open Go.ChangeShapes Go.WideShapes Go.ChangeAt Go.RowKit

theorem lawOwn : ownKnob Tryz.prog.godebug = none := by kernel_rfl
theorem lawLaid : laidOutB Tryz.prog = true := by kernel_rfl

/-- Can every type of the list be read, and is it one of the program's? -/
def okTypes (P : Program) (ts : List TypeId) : Bool := ts.all fun t => P.readableRec t && decide (t < P.types.size)

theorem below_trodAllP {P : Program} (hl : laidOutB P = true) {H : Type} {enc : TypeId × Value → H} {W W' : World} (hb : Below W.heap.size W W') : ∀ {ts : List TypeId} {vs : List Value} {ds : List (DataW H)} {ps : List MemPlace} (_ : okTypes P ts = true)
    (_ : DataW.TrodAll enc P W 0 (fun _ => true) true ts vs ds ps), DataW.TrodAll enc P W' 0 (fun b => decide (b < W.heap.size)) true ts vs ds ps := by
  intro ts
  induction ts with
  | nil =>
    intro vs ds ps _ h
    obtain ⟨rfl, rfl, rfl⟩ := trodAll_nil h
    exact trodAll_mk0
  | cons t ts ih =>
    intro vs ds ps hk h
    obtain ⟨v, vs', d, ds', p, q, rfl, rfl, rfl, h1, h2⟩ := trodAll_cons h
    simp only [okTypes, List.all_cons, Bool.and_eq_true, decide_eq_true_eq] at hk
    have lt : ∀ x ∈ p, x.block < W.heap.size := by obtain ⟨m, hm⟩ := h1; exact DataW.trod_lt m _ _ _ hm
    exact trodAll_cons_mk (Below.trod hl hk.1.1 hk.1.2 h1 hb lt) (ih (by simp only [okTypes]; exact hk.2) h2)

theorem below_trodAll {H : Type} {enc : TypeId × Value → H} {W W' : World} {ts : List TypeId} {vs : List Value} {ds : List (DataW H)} {ps : List MemPlace} (hk : okTypes Tryz.prog ts = true)
    (h : DataW.TrodAll enc Tryz.prog W 0 (fun _ => true) true ts vs ds ps) (hb : Below W.heap.size W W') : DataW.TrodAll enc Tryz.prog W' 0 (fun b => decide (b < W.heap.size)) true ts vs ds ps :=
  below_trodAllP lawLaid hb hk h

/-- An integer of 64 bits, read: its bounds. -/
theorem open_i64 {P : Program} {H : Type} {enc : TypeId × Value → H} {W : World} {base : Nat} {t : TypeId} {v : Value} {d : DataW H} {p : List MemPlace} (ht : P.underlying t = some (.int .i64)) (k : Value.okWide P W .any base t v) (h : DataW.Trod enc P W 0 (fun _ => true) true t v d p) :
    ∃ n : Int, v = .int .i64 n ∧ -9223372036854775808 ≤ n ∧ n ≤ 9223372036854775807 := by
  obtain ⟨a, rfl, rfl, rfl, wa⟩ := open_int ht k h
  have := Go.bounds_i64 wa
  exact ⟨a, rfl, this.1, this.2⟩

/-- A string, read. -/
theorem open_str {P : Program} {H : Type} {enc : TypeId × Value → H} {W : World} {base : Nat} {t : TypeId} {v : Value} {d : DataW H} {p : List MemPlace} (ht : P.underlying t = some .string) (k : Value.okWide P W .any base t v) (h : DataW.Trod enc P W 0 (fun _ => true) true t v d p) :
    ∃ s : ByteArray, v = .string s ∧ s.size ≤ 9223372036854775807 := by
  obtain ⟨s, rfl, rfl, rfl, hs⟩ := Go.ChangeMaps.open_string ht k h
  exact ⟨s, rfl, hs⟩

theorem cell_spot {W : World} {a : Addr} {v : Value} (h : W.cell? a = some v) : a.spot = none := by
  unfold World.cell? at h
  split at h
  · split at h
    · cases h
    · rename_i hs; simpa using hs
  · cases h

theorem row_of_cells {W : World} {a : Addr} {zs : List Int} {len cap : Nat} (hl : len ≤ cap) (hm : cap ≤ 9223372036854775807) (hz : zs.length = cap) (hc : ∀ j, j < cap → W.cell? (a.add j) = some (.int .i64 (zs.getD j 0))) : 
    ∃ ys : List Int, ys.length = len ∧ (∀ y, y ∈ ys → y ∈ zs) ∧ ((0 < len) → ∃ b off, a = ⟨b, off, none⟩ ∧ b < W.heap.size ∧ ∀ j, (h : j < ys.length) → W.cell? ⟨b, off + j, none⟩ = some (.int .i64 ys[j])) := by
  refine ⟨zs.take len, by simp; omega, fun y hy => List.mem_of_mem_take hy, fun h0 => ?_⟩
  have h1 := hc 0 (by omega)
  have ha : a.add 0 = a := by simp [Addr.add]
  rw [ha] at h1
  have hs := cell_spot h1
  obtain ⟨b, off, sp⟩ := a
  simp only at hs
  subst hs
  refine ⟨b, off, rfl, World.block_lt_of_cell? W _ h1, fun j hj => ?_⟩
  have hj' : j < len := by simp at hj; omega
  have h2 := hc j (by omega)
  have e : (⟨b, off, none⟩ : Addr).add j = ⟨b, off + j, none⟩ := by
    unfold Addr.add
    split
    · rename_i h; subst h; rfl
    · rfl
  rw [e] at h2
  rw [h2]
  have : j < zs.length := by omega
  simp [this]

/-- A slice of ints, read: where its elements lie. -/
structure RowI (W : World) (a : Option Addr) (cap : Nat) (zs : List Int) : Prop where
  le : zs.length ≤ cap
  max : cap ≤ 9223372036854775807
  cells : 0 < zs.length → ∃ b off, a = some ⟨b, off, none⟩ ∧ b < W.heap.size ∧ ∀ j, (h : j < zs.length) → W.cell? ⟨b, off + j, none⟩ = some (.int .i64 zs[j])
  wf : ∀ x, x ∈ zs → -9223372036854775808 ≤ x ∧ x ≤ 9223372036854775807

/-- A value that is read as a slice of ints. -/
theorem rowI_of_trod {P : Program} {H : Type} {enc : TypeId × Value → H} {W : World} {t e : TypeId} {v : Value} {fuel : Nat} {y : DataW H × List MemPlace} (ht : P.underlying t = some (.slice e)) (he : P.underlying e = some (.int .i64)) (hc : P.cellsOf e = 1)
    (h : DataW.trod enc P W 0 (fun _ => true) true fuel t [v] = some y) : ∃ a cap zs, v = .slice a zs.length cap ∧ RowI W a cap zs := by
  rcases open_ints ht he hc h with ⟨hcs, _⟩ | ⟨x, l, c, zs, hcs, _, hl, hm, hz, _, hcell, hwz⟩
  · simp only [List.cons.injEq, and_true] at hcs
    exact ⟨none, 0, [], hcs, by simp, by omega, by simp, by simp⟩
  · simp only [List.cons.injEq, and_true] at hcs
    simp only [if_true] at hz
    obtain ⟨ys, h1, h2, h3⟩ := row_of_cells hl hm hz (fun j hj => hcell j (by omega))
    refine ⟨some x, c, ys, by rw [hcs, h1], by omega, hm, fun h0 => ?_, fun x hx => Go.bounds_i64 (hwz x (h2 x hx))⟩
    obtain ⟨b, off, rfl, hb, hcc⟩ := h3 (by omega)
    exact ⟨b, off, rfl, hb, hcc⟩

theorem rowI_of_open {P : Program} {H : Type} {enc : TypeId × Value → H} {W : World} {base : Nat} {t e : TypeId} {v : Value} {d : DataW H} {p : List MemPlace} (ht : P.underlying t = some (.slice e)) (he : P.underlying e = some (.int .i64)) (hc : P.cellsOf e = 1)
    (k : Value.okWide P W .any base t v) (h : DataW.Trod enc P W 0 (fun _ => true) true t v d p) : ∃ a cap zs, v = .slice a zs.length cap ∧ RowI W a cap zs := by
  obtain ⟨a, len, cap, rfl⟩ := okWide_slice ht k
  obtain ⟨fuel, hf⟩ := h
  exact rowI_of_trod ht he hc (by simpa [Value.cells] using hf)

/-- The first k elements of such a slice. -/
theorem RowI.take {W : World} {a : Option Addr} {cap : Nat} {zs : List Int} (h : RowI W a cap zs) (k : Nat) (hk : k ≤ zs.length) : RowI W a cap (zs.take k) where
  le := by simp; have := h.le; omega
  max := h.max
  cells := fun h0 => by
    simp at h0
    obtain ⟨b, off, h1, h2, h3⟩ := h.cells (by omega)
    refine ⟨b, off, h1, h2, fun j hj => ?_⟩
    simp at hj
    rw [h3 j (by omega)]
    simp
  wf := fun x hx => h.wf x (List.mem_of_mem_take hx)

theorem RowI.keep {W W' : World} {a : Option Addr} {cap : Nat} {zs : List Int} (h : RowI W a cap zs) (hb : Below W.heap.size W W') : RowI W' a cap zs where
  le := h.le
  max := h.max
  cells := fun h0 => by
    obtain ⟨b, off, h1, h2, h3⟩ := h.cells h0
    exact ⟨b, off, h1, Nat.lt_of_lt_of_le h2 hb.size, fun j hj => (hb.cell (p := ⟨b, off + j, none⟩) h2).trans (h3 j hj)⟩
  wf := h.wf

end Go.Proofs.YtbogljpafpkikaaGreatDoor

/-
  Reading a slice of structs: where the fields of each element lie.
-/
namespace Go.Proofs.YtbogljpafpkikaaGreatDoor
open Go.ChangeShapes Go.WideShapes Go.ChangeAt Go.RowKit Go.Deep

/-- An argument that is a slice of structs of one-cell fields. -/
theorem structs_of_trod {P : Program} {H : Type} {enc : TypeId × Value → H} {W : World} {t e : TypeId} {fs : Array Field} {v : Value} {fuel : Nat} {x : DataW H × List MemPlace} (ht : P.underlying t = some (.slice e)) (he : P.underlying e = some (.struct fs))
    (hone : oneCellFields P fs = true) (hC : P.cellsOf e = fs.size) (hpos : 0 < fs.size) (h : DataW.trod enc P W 0 (fun _ => true) true fuel t [v] = some x) :
    ∃ a len cap, v = .slice a len cap ∧ len ≤ cap ∧ cap ≤ 9223372036854775807 ∧ (0 < len → ∃ b off, a = some ⟨b, off, none⟩ ∧ b < W.heap.size ∧
      ∀ i, i < len → ∀ (j : Nat) (f : Field), fs[j]? = some f → ∃ u y n, W.cell? ⟨b, off + (i * fs.size + j), none⟩ = some u ∧ DataW.trod enc P W 0 (fun _ => true) true n f.type [u] = some y) := by
  rcases open_slice ht h with ⟨hcs, _⟩ | ⟨a, len, cap, m, n, D, Pl, hcs, _, hl, hm, hmm, _, hi⟩
  · simp only [List.cons.injEq, and_true] at hcs
    exact ⟨none, 0, 0, hcs, by omega, by omega, fun h => by omega⟩
  · simp only [List.cons.injEq, and_true] at hcs
    simp only [if_true] at hmm
    refine ⟨some a, len, cap, hcs, hl, hm, fun h0 => ?_⟩
    have each : ∀ i, i < len → ∀ (j : Nat) (f : Field), fs[j]? = some f → ∃ u y n, W.cell? (a.add (i * fs.size + j)) = some u ∧ DataW.trod enc P W 0 (fun _ => true) true n f.type [u] = some y := by
      intro i hil j f hj
      obtain ⟨cs, hc, htr⟩ := hi i (by omega)
      rw [hC] at hc
      obtain ⟨ys, n', _, _, hlen, hyl, hf⟩ := DataW.trod_struct he htr
      obtain ⟨_, hcl, hat⟩ := World.cells?_some hc
      obtain ⟨ho, hk⟩ := hone_of hone j f hj
      have hjl : j < fs.size := (Array.getElem?_eq_some_iff.1 hj).1
      have h1 := hf j f hj
      rw [ho, hk] at h1
      have hjc : j < cs.length := by omega
      have e1 : (cs.drop j).take 1 = [cs[j]] := by rw [List.drop_eq_getElem_cons hjc]; rfl
      rw [e1] at h1
      have hjy : j < ys.length := by omega
      rw [List.getElem?_eq_getElem hjy] at h1
      exact ⟨_, _, _, by rw [← Go.Deep.add_add, hat j hjl, List.getElem?_eq_getElem hjc], h1⟩
    obtain ⟨f0, hf0⟩ : ∃ f0, fs[0]? = some f0 := ⟨fs[0], by simp [hpos]⟩
    obtain ⟨u0, _, _, hu0, _⟩ := each 0 h0 0 f0 hf0
    have ha : a.add (0 * fs.size + 0) = a := by simp [Addr.add]
    rw [ha] at hu0
    have hs := cell_spot hu0
    obtain ⟨b, off, sp⟩ := a
    simp only at hs
    subst hs
    refine ⟨b, off, rfl, World.block_lt_of_cell? W _ hu0, fun i hil j f hj => ?_⟩
    obtain ⟨u, y, n, h1, h2⟩ := each i hil j f hj
    have e : (⟨b, off, none⟩ : Addr).add (i * fs.size + j) = ⟨b, off + (i * fs.size + j), none⟩ := by
      unfold Addr.add
      split
      · rename_i h; rw [h]; rfl
      · rfl
    rw [e] at h1
    exact ⟨u, y, n, h1, h2⟩

theorem trod_i64 {P : Program} {H : Type} {enc : TypeId × Value → H} {W : World} {t : TypeId} {u : Value} {n : Nat} {y : DataW H × List MemPlace} (ht : P.underlying t = some (.int .i64)) (h : DataW.trod enc P W 0 (fun _ => true) true n t [u] = some y) :
    ∃ k : Int, u = .int .i64 k ∧ -9223372036854775808 ≤ k ∧ k ≤ 9223372036854775807 := by
  obtain ⟨k, h1, _, wk⟩ := DataW.trod_int ht h
  simp only [List.cons.injEq, and_true] at h1
  have := Go.bounds_i64 wk
  exact ⟨k, h1, this.1, this.2⟩
theorem trod_str {P : Program} {H : Type} {enc : TypeId × Value → H} {W : World} {t : TypeId} {u : Value} {n : Nat} {y : DataW H × List MemPlace} (ht : P.underlying t = some .string) (h : DataW.trod enc P W 0 (fun _ => true) true n t [u] = some y) :
    ∃ s : ByteArray, u = .string s ∧ s.size ≤ 9223372036854775807 := by
  obtain ⟨s, h1, _, hs⟩ := DataW.trod_string ht h
  simp only [List.cons.injEq, and_true] at h1
  exact ⟨s, h1, hs⟩
theorem trod_bool {P : Program} {H : Type} {enc : TypeId × Value → H} {W : World} {t : TypeId} {u : Value} {n : Nat} {y : DataW H × List MemPlace} (ht : P.underlying t = some .bool) (h : DataW.trod enc P W 0 (fun _ => true) true n t [u] = some y) :
    ∃ b : Bool, u = .bool b := by
  obtain ⟨s, h1, _⟩ := DataW.trod_bool ht h
  simp only [List.cons.injEq, and_true] at h1
  exact ⟨s, h1⟩

end Go.Proofs.YtbogljpafpkikaaGreatDoor
