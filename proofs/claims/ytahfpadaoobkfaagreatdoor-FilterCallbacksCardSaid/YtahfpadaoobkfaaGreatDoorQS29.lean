/-
  The frame of a law's proof: an argument that nobody has written reads as it did.
-/
import Derived.Test.YtahfpadaoobkfaaGreatDoorRows
import Derived.Test.YtahfpadaoobkfaaGreatDoorQS01
import Derived.ProofKit
import Derived.OpenShut
import Derived.ShutString
import Derived.Deep.Slices
import Derived.Deep.Fields
import Derived.Test.YtahfpadaoobkfaaGreatDoorQS28
import Derived.Deep.Strs
import Derived.ArgAppend
namespace Go.Proofs.YtahfpadaoobkfaaGreatDoor
open Go.ChangeShapes Go.WideShapes Go.ChangeAt Go.RowKit

theorem lawOwn : ownKnob Tryz.prog.godebug = none := by kernel_rfl
theorem lawLaid : laidOutB Tryz.prog = true := by kernel_rfl

/-- Can every type of the list be read, and is it one of the program's? -/
def okTypes (P : Program) (ts : List TypeId) : Bool := ts.all fun t => P.readableRec t && decide (t < P.types.size)

theorem below_trodAllP {P : Program} (hl : laidOutB P = true) {H : Type} {enc : TypeId × Value → H} {W W' : World} (hb : Below W.heap.size W W') : ∀ {ts : List TypeId} {vs : List Value} {ds : List (DataW H)} {ps : List MemPlace} (_ : okTypes P ts = true)
    (_ : DataW.TrodAll enc P W 0 (fun _ => true) true ts vs ds ps), DataW.TrodAll enc P W' 0 (fun b => decide (b < W.heap.size)) true ts vs ds ps := by
  intro ts
  induction ts with
  | nil =>
    intro vs ds ps _ h
    obtain ⟨rfl, rfl, rfl⟩ := trodAll_nil h
    exact trodAll_mk0
  | cons t ts ih =>
    intro vs ds ps hk h
    obtain ⟨v, vs', d, ds', p, q, rfl, rfl, rfl, h1, h2⟩ := trodAll_cons h
    simp only [okTypes, List.all_cons, Bool.and_eq_true, decide_eq_true_eq] at hk
    have lt : ∀ x ∈ p, x.block < W.heap.size := by obtain ⟨m, hm⟩ := h1; exact DataW.trod_lt m _ _ _ hm
    exact trodAll_cons_mk (Below.trod hl hk.1.1 hk.1.2 h1 hb lt) (ih (by simp only [okTypes]; exact hk.2) h2)

theorem below_trodAll {H : Type} {enc : TypeId × Value → H} {W W' : World} {ts : List TypeId} {vs : List Value} {ds : List (DataW H)} {ps : List MemPlace} (hk : okTypes Tryz.prog ts = true)
    (h : DataW.TrodAll enc Tryz.prog W 0 (fun _ => true) true ts vs ds ps) (hb : Below W.heap.size W W') : DataW.TrodAll enc Tryz.prog W' 0 (fun b => decide (b < W.heap.size)) true ts vs ds ps :=
  below_trodAllP lawLaid hb hk h

/-- An integer of 64 bits, read: its bounds. -/
theorem open_i64 {P : Program} {H : Type} {enc : TypeId × Value → H} {W : World} {base : Nat} {t : TypeId} {v : Value} {d : DataW H} {p : List MemPlace} (ht : P.underlying t = some (.int .i64)) (k : Value.okWide P W .any base t v) (h : DataW.Trod enc P W 0 (fun _ => true) true t v d p) :
    ∃ n : Int, v = .int .i64 n ∧ -9223372036854775808 ≤ n ∧ n ≤ 9223372036854775807 := by
  obtain ⟨a, rfl, rfl, rfl, wa⟩ := open_int ht k h
  have := Go.bounds_i64 wa
  exact ⟨a, rfl, this.1, this.2⟩

theorem cell_spot {W : World} {a : Addr} {v : Value} (h : W.cell? a = some v) : a.spot = none := by
  unfold World.cell? at h
  split at h
  · split at h
    · cases h
    · rename_i hs; simpa using hs
  · cases h

/-- A slice of ints, read: where its elements lie. -/
structure RowI (W : World) (a : Option Addr) (cap : Nat) (zs : List Int) : Prop where
  le : zs.length ≤ cap
  max : cap ≤ 9223372036854775807
  cells : 0 < zs.length → ∃ b off, a = some ⟨b, off, none⟩ ∧ b < W.heap.size ∧ ∀ j, (h : j < zs.length) → W.cell? ⟨b, off + j, none⟩ = some (.int .i64 zs[j])
  wf : ∀ x, x ∈ zs → -9223372036854775808 ≤ x ∧ x ≤ 9223372036854775807

/-- The first k elements of such a slice. -/
theorem RowI.take {W : World} {a : Option Addr} {cap : Nat} {zs : List Int} (h : RowI W a cap zs) (k : Nat) (hk : k ≤ zs.length) : RowI W a cap (zs.take k) where
  le := by simp; have := h.le; omega
  max := h.max
  cells := fun h0 => by
    simp at h0
    obtain ⟨b, off, h1, h2, h3⟩ := h.cells (by omega)
    refine ⟨b, off, h1, h2, fun j hj => ?_⟩
    simp at hj
    rw [h3 j (by omega)]
    simp
  wf := fun x hx => h.wf x (List.mem_of_mem_take hx)

theorem RowI.keep {W W' : World} {a : Option Addr} {cap : Nat} {zs : List Int} (h : RowI W a cap zs) (hb : Below W.heap.size W W') : RowI W' a cap zs where
  le := h.le
  max := h.max
  cells := fun h0 => by
    obtain ⟨b, off, h1, h2, h3⟩ := h.cells h0
    exact ⟨b, off, h1, Nat.lt_of_lt_of_le h2 hb.size, fun j hj => (hb.cell (p := ⟨b, off + j, none⟩) h2).trans (h3 j hj)⟩
  wf := h.wf

end Go.Proofs.YtahfpadaoobkfaaGreatDoor

/-
  Reading a slice of structs: where the fields of each element lie.
-/
namespace Go.Proofs.YtahfpadaoobkfaaGreatDoor
open Go.ChangeShapes Go.WideShapes Go.ChangeAt Go.RowKit Go.Deep

theorem trod_i64 {P : Program} {H : Type} {enc : TypeId × Value → H} {W : World} {t : TypeId} {u : Value} {n : Nat} {y : DataW H × List MemPlace} (ht : P.underlying t = some (.int .i64)) (h : DataW.trod enc P W 0 (fun _ => true) true n t [u] = some y) :
    ∃ k : Int, u = .int .i64 k ∧ -9223372036854775808 ≤ k ∧ k ≤ 9223372036854775807 := by
  obtain ⟨k, h1, _, wk⟩ := DataW.trod_int ht h
  simp only [List.cons.injEq, and_true] at h1
  have := Go.bounds_i64 wk
  exact ⟨k, h1, this.1, this.2⟩
end Go.Proofs.YtahfpadaoobkfaaGreatDoor

/-
  Arguments of dialtonelaw08, opened: arrays of integers, slices of arrays, Numbers, findings.
-/
namespace Go.Proofs.YtahfpadaoobkfaaGreatDoor
open Go.ChangeShapes Go.WideShapes Go.ChangeAt Go.RowKit Go.Deep Go.Lib

theorem ints_list : ∀ {cs : List Value}, (∀ u, u ∈ cs → ∃ k : Int, u = .int .i64 k ∧ I64 k) → ∃ zs : List Int, cs = intC zs ∧ ∀ z, z ∈ zs → I64 z
  | [], _ => ⟨[], rfl, by simp⟩
  | u :: cs, h => by
    obtain ⟨k, rfl, hk⟩ := h u (by simp)
    obtain ⟨zs, rfl, hz⟩ := ints_list (cs := cs) (fun u hu => h u (by simp [hu]))
    exact ⟨k :: zs, rfl, fun z hm => by
      rcases List.mem_cons.1 hm with rfl | hm
      · exact hk
      · exact hz z hm⟩

theorem ints_of_array {P : Program} {H : Type} {enc : TypeId × Value → H} {W : World} {t e : TypeId} {n fuel : Nat} {cs : List Value} {x : DataW H × List MemPlace} (ht : P.underlying t = some (.array n e)) (he : P.underlying e = some (.int .i64)) (hc : P.cellsOf e = 1) (hn : P.cellsOf t = n)
    (h : DataW.trod enc P W 0 (fun _ => true) true fuel t cs = some x) : ∃ zs : List Int, cs = intC zs ∧ zs.length = n ∧ ∀ z, z ∈ zs → I64 z := by
  obtain ⟨xs, m, _, _, hl, hx, hi⟩ := DataW.trod_array ht h
  rw [hn] at hl
  obtain ⟨zs, rfl, hz⟩ := ints_list (cs := cs) (fun u hu => by
    obtain ⟨i, hil, rfl⟩ := List.getElem_of_mem hu
    have h1 := hi i (by omega)
    rw [hc, Nat.mul_one, List.drop_eq_getElem_cons hil, List.getElem?_eq_getElem (by omega)] at h1
    obtain ⟨k, h2, h3⟩ := trod_i64 he h1
    exact ⟨k, h2, h3⟩)
  exact ⟨zs, rfl, by simpa using hl, hz⟩

theorem nums_of_trod {P : Program} {H : Type} {enc : TypeId × Value → H} {W : World} {t e i : TypeId} {k fuel : Nat} {v : Value} {x : DataW H × List MemPlace} (ht : P.underlying t = some (.slice e)) (he : P.underlying e = some (.array k i)) (hi : P.underlying i = some (.int .i64)) (hc : P.cellsOf i = 1) (hk : P.cellsOf e = k) (hp : 0 < k)
    (h : DataW.trod enc P W 0 (fun _ => true) true fuel t [v] = some x) : ∃ n is, NumAt W v n k is := by
  rcases open_slice ht h with ⟨hcs, _⟩ | ⟨a, len, cap, m, f, D, Pl, hcs, _, hl, hm, hmm, _, hel⟩
  · simp only [List.cons.injEq, and_true] at hcs
    subst hcs
    exact ⟨0, [], Sl.nil _, by simp, by simp⟩
  · simp only [List.cons.injEq, and_true] at hcs
    subst hcs
    simp only [if_true] at hmm
    have key : ∀ n, n ≤ len → ∃ is : List Int, is.length = n * k ∧ (∀ z, z ∈ is → I64 z) ∧ ∀ j u, (intC is)[j]? = some u → W.cell? (a.add j) = some u := by
      intro n
      induction n with
      | zero => exact fun _ => ⟨[], by simp, by simp, by simp⟩
      | succ n ih =>
        intro hn
        obtain ⟨is, h1, h2, h3⟩ := ih (by omega)
        obtain ⟨cs, hcs, htr⟩ := hel n (by omega)
        rw [hk] at hcs
        obtain ⟨zs, rfl, hz1, hz2⟩ := ints_of_array he hi hc hk htr
        obtain ⟨_, hcl, hat⟩ := World.cells?_some hcs
        refine ⟨is ++ zs, by rw [List.length_append, h1, hz1, Nat.succ_mul], fun z hz => ?_, fun j u hu => ?_⟩
        · rcases List.mem_append.1 hz with hz | hz
          · exact h2 z hz
          · exact hz2 z hz
        · rw [intC, List.map_append] at hu
          rcases Nat.lt_or_ge j is.length with hj | hj
          · rw [List.getElem?_append_left (by simpa using hj)] at hu
            exact h3 j u hu
          · rw [List.getElem?_append_right (by simpa using hj)] at hu
            have hjk : j - is.length < k := by
              have := (List.getElem?_eq_some_iff.1 hu).1
              simp at this; omega
            have h4 := hat (j - is.length) hjk
            rw [Go.Deep.add_add] at h4
            rw [List.length_map] at hu
            rw [hu, h1, show n * k + (j - n * k) = j by omega] at h4
            exact h4
    obtain ⟨is, h1, h2, h3⟩ := key len (Nat.le_refl _)
    refine ⟨len, is, ⟨_, cap, rfl, hl, hm, fun h0 => ?_⟩, h1, h2⟩
    have hpos : 0 < is.length := by rw [h1]; exact Nat.mul_pos h0 hp
    have hu0 := h3 0 (.int .i64 is[0]) (by simp [hpos])
    have ha : a.add 0 = a := by simp [Addr.add]
    rw [ha] at hu0
    have hs := cell_spot hu0
    obtain ⟨b, off, sp⟩ := a
    simp only at hs
    subst hs
    exact ⟨b, off, rfl, fun j u hu => by rw [← addr_add]; exact h3 j u hu⟩

theorem agg_open {P : Program} {H : Type} {enc : TypeId × Value → H} {W : World} {t : TypeId} {cs : Array Value} {d : DataW H} {p : List MemPlace} (h : DataW.Trod enc P W 0 (fun _ => true) true t (.agg cs) d p) : ∃ fuel, DataW.trod enc P W 0 (fun _ => true) true fuel t cs.toList = some (d, p) := by
  obtain ⟨fuel, hf⟩ := h
  exact ⟨fuel, by simpa [Value.cells] using hf⟩


set_option maxRecDepth 100000 in
theorem open_numbers {H : Type} {enc : TypeId × Value → H} {W : World} {base : Nat} {v : Value} {d : DataW H} {p : List MemPlace} (k : Value.okWide Tryz.prog W .any base 30 v) (h : DataW.Trod enc Tryz.prog W 0 (fun _ => true) true 30 v d p) :
    ∃ v1 v2 v3 n1 n2 n3 is1 is2 is3, v = .agg #[v1, v2, v3] ∧ NumAt W v1 n1 6 is1 ∧ NumAt W v2 n2 3 is2 ∧ NumAt W v3 n3 6 is3 := by
  obtain ⟨cs, rfl, hs⟩ := okWide_struct Tryz.underlying30 k
  have hs3 : cs.size = 3 := hs.trans (by kernel_rfl)
  obtain ⟨fuel, hf⟩ := agg_open h
  obtain ⟨y0, y1, y2, n, _, _, g0, g1, g2⟩ := trod_struct3 Tryz.underlying30 hf
  match cs, hs3 with
  | ⟨[c0, c1, c2]⟩, _ =>
    obtain ⟨n1, is1, a1⟩ := nums_of_trod (k := 6) Tryz.underlying27 Tryz.underlying101 Tryz.underlying3 (by kernel_rfl) (by kernel_rfl) (by omega) (show DataW.trod enc Tryz.prog W 0 (fun _ => true) true n 27 [c0] = some y0 from g0)
    obtain ⟨n2, is2, a2⟩ := nums_of_trod (k := 3) Tryz.underlying28 Tryz.underlying106 Tryz.underlying3 (by kernel_rfl) (by kernel_rfl) (by omega) (show DataW.trod enc Tryz.prog W 0 (fun _ => true) true n 28 [c1] = some y1 from g1)
    obtain ⟨n3, is3, a3⟩ := nums_of_trod (k := 6) Tryz.underlying27 Tryz.underlying101 Tryz.underlying3 (by kernel_rfl) (by kernel_rfl) (by omega) (show DataW.trod enc Tryz.prog W 0 (fun _ => true) true n 27 [c2] = some y2 from g2)
    exact ⟨c0, c1, c2, n1, n2, n3, is1, is2, is3, rfl, a1, a2, a3⟩


set_option maxRecDepth 100000 in
theorem open_i4 {H : Type} {enc : TypeId × Value → H} {W : World} {base : Nat} {v : Value} {d : DataW H} {p : List MemPlace} (k : Value.okWide Tryz.prog W .any base 22 v) (h : DataW.Trod enc Tryz.prog W 0 (fun _ => true) true 22 v d p) :
    ∃ a b c d, v = .agg #[.int .i64 a, .int .i64 b, .int .i64 c, .int .i64 d] ∧ I64 a ∧ I64 b ∧ I64 c ∧ I64 d := by
  obtain ⟨cs, rfl⟩ : ∃ cs, v = .agg cs := by
    simp only [Value.okWide, Tryz.underlying22] at k
    obtain ⟨cs, h1, _⟩ := k
    exact ⟨cs, h1⟩
  obtain ⟨fuel, hf⟩ := agg_open h
  obtain ⟨zs, h1, h2, h3⟩ := ints_of_array (n := 4) Tryz.underlying22 Tryz.underlying3 (by kernel_rfl) (by kernel_rfl) hf
  obtain ⟨cs⟩ := cs
  simp only at h1
  subst h1
  match zs, h2 with
  | [a, b, c, d], _ => exact ⟨a, b, c, d, rfl, h3 a (by simp), h3 b (by simp), h3 c (by simp), h3 d (by simp)⟩

end Go.Proofs.YtahfpadaoobkfaaGreatDoor

/-
  What the laws of dialtonelaw08 begin with: rules that integers determine, a question, both boxed.
-/
namespace Go.Proofs.YtahfpadaoobkfaaGreatDoor
open Go.RowKit Go.Lib

/-- The rules and the question of a law, in their boxes. -/
structure LawSt (w : World) (bc bq : Nat) (vc vr vf : Value) (ys : List ClV) (c : Rb) (q : Qn) (W : World) : Prop where
  fr : Fr [] w W
  cbox : W.heap[bc]? = some (.cells #[vc, vr, vf] 36 (0, 0))
  qbox : W.heap[bq]? = some (.cells #[.int .i64 q.thing, .int .i64 q.says, .int .i64 q.at_, .int .i64 q.known] 142 (0, 0))
  own : RbOwn (w.heap.size + 3) W vc vr vf ys c
  made : MadeOk c
  ok : okB c q = true
theorem LawSt.same {w : World} {bc bq : Nat} {vc vr vf : Value} {ys : List ClV} {c : Rb} {q : Qn} {W W' : World} (h : LawSt w bc bq vc vr vf ys c q W) (hf : Fr [] W W') : LawSt w bc bq vc vr vf ys c q W' :=
  ⟨h.fr.trans hf, hf.keep h.cbox (by simp), hf.keep h.qbox (by simp), h.own.same hf, h.made, h.ok⟩
theorem LawSt.at_ {w : World} {bc bq : Nat} {vc vr vf : Value} {ys : List ClV} {c : Rb} {q : Qn} {W : World} (h : LawSt w bc bq vc vr vf ys c q W) : RbAt W vc vr vf ys c := h.own.at_ h.made.ok

theorem LawSt.cells {w : World} {bc bq : Nat} {vc vr vf : Value} {ys : List ClV} {c : Rb} {x0 x1 x2 x3 : Int} {W : World} (h : LawSt w bc bq vc vr vf ys c ⟨x0, x1, x2, x3⟩ W) :
    (W.cell? ⟨bc, 0, none⟩ = some vc ∧ W.cell? ⟨bc, 1, none⟩ = some vr ∧ W.cell? ⟨bc, 2, none⟩ = some vf) ∧ W.cell? ⟨bq, 0, none⟩ = some (.int .i64 x0) ∧ W.cell? ⟨bq, 1, none⟩ = some (.int .i64 x1) ∧ W.cell? ⟨bq, 2, none⟩ = some (.int .i64 x2) ∧ W.cell? ⟨bq, 3, none⟩ = some (.int .i64 x3) :=
  ⟨⟨cell_of_blk h.cbox 0, cell_of_blk h.cbox 1, cell_of_blk h.cbox 2⟩, cell_of_blk h.qbox 0, cell_of_blk h.qbox 1, cell_of_blk h.qbox 2, cell_of_blk h.qbox 3⟩
theorem LawSt.check {w : World} {bc bq : Nat} {vc vr vf : Value} {ys : List ClV} {c : Rb} {x0 x1 x2 x3 : Int} {W : World} (h : LawSt w bc bq vc vr vf ys c ⟨x0, x1, x2, x3⟩ W) (vl : Value) (l : List Fd) (a b : Bool) (hl : Sl W vl l.length (l.flatMap fdC)) (hb : checkB c ⟨x0, x1, x2, x3⟩ a l = b) :
    Calls Tryz.prog 59 #[.agg #[vc, vr, vf], .agg #[.int .i64 x0, .int .i64 x1, .int .i64 x2, .int .i64 x3], .bool a, vl] W fun e w' => e = .returned (.bool b) ∧ Fr [] W w' := by
  subst hb
  exact check_c vc vr vf vl ys c ⟨x0, x1, x2, x3⟩ a l W h.at_ hl

def askQ (a b c d : Int) : Qn := ⟨pickI a 3, pickI b 8, pickI c 100, pickI d 100⟩
structure AskM (q : Qn) : Prop where
  thing : 0 ≤ q.thing ∧ q.thing < 3
  says : 0 ≤ q.says ∧ q.says < 8
  at_ : 0 ≤ q.at_ ∧ q.at_ < 100
  known : 0 ≤ q.known ∧ q.known < 100
theorem AskM.asks {q : Qn} (h : AskM q) : asksB q = true := by
  have h1 := h.thing; have h2 := h.says; have h3 := h.at_; have h4 := h.known
  simp only [asksB, secB, isInB, Bool.and_eq_true, decide_eq_true_eq]
  omega
/-- Blocks that are made one after the other. -/
def allocs (w : World) : List Obj → World
  | [] => w
  | o :: l => allocs (w.alloc o) l
theorem allocs_fr : ∀ (l : List Obj) (w : World), Fr [] w (allocs w l)
  | [], _ => Fr.refl _ _
  | o :: l, w => (Fr.alloc _ w o).trans (allocs_fr l _)
theorem allocs_at : ∀ (l : List Obj) (w : World) (i : Nat) (h : i < l.length), (allocs w l).heap[w.heap.size + i]? = some l[i]
  | o :: l, w, 0, _ => (allocs_fr l (w.alloc o)).keep (heap_alloc_new w o) (by simp)
  | o :: l, w, i + 1, h => by
    have := allocs_at l (w.alloc o) i (by simpa using h)
    have hs : (w.alloc o).heap.size = w.heap.size + 1 := Array.size_push ..
    rw [hs, show w.heap.size + 1 + i = w.heap.size + (i + 1) by omega] at this
    exact this

end Go.Proofs.YtahfpadaoobkfaaGreatDoor

/-
  dialtoneref08: BentProof, Has; dialtonelaw08: index.
-/
namespace Go.Proofs.YtahfpadaoobkfaaGreatDoor
open Go.RowKit Go.Lib

/-- Findings that can be read. -/
structure FdAt (w : World) (v : Value) (l : List Fd) : Prop where
  sl : Sl w v l.length (l.flatMap fdC)
  src : SrcAt w v l.length (l.flatMap fdC)
theorem FdAt.same {w w' : World} {v : Value} {l : List Fd} (h : FdAt w v l) (hf : Fr [] w w') : FdAt w' v l := ⟨h.sl.same hf, h.src.same hf⟩
/-- A cell of a row is written. -/
theorem row_set {w : World} {e : TypeId} {size g n cap : Nat} {xs : List Value} (h : w.ownsRow 0 e size (.slice (some ⟨g, 0, none⟩) n cap) n xs) (i : Nat) (u : Value) (_hi : i < xs.length) : (w.setCell ⟨g, i, none⟩ u).ownsRow 0 e size (.slice (some ⟨g, 0, none⟩) n cap) n (xs.set i u) := by
  obtain ⟨hl, h2⟩ := h
  refine ⟨by simpa using hl, ?_⟩
  rcases h2 with ⟨h0, _⟩ | ⟨g', cap', cur, hv, r0, hg, r1, r2, r3, r4⟩
  · cases h0
  · cases hv
    refine .inr ⟨g, cap, _, rfl, r0, heap_setCell_same u hg, r1, r2, by simpa using r3, ?_⟩
    rw [← r4, ← List.take_set]
    simp
theorem row_base {w : World} {N : Nat} {e : TypeId} {size : Nat} {v : Value} {n : Nat} {xs : List Value} (h : w.ownsRow N e size v n xs) : w.ownsRow 0 e size v n xs := by
  refine ⟨h.1, ?_⟩
  rcases h.2 with h | ⟨g, cap, cur, h1, _, h2⟩
  · exact .inl h
  · exact .inr ⟨g, cap, cur, h1, Nat.zero_le _, h2⟩

end Go.Proofs.YtahfpadaoobkfaaGreatDoor
