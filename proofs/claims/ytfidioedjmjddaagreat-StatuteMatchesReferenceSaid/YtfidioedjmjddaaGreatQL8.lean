/-
  Arguments of dialtonelaw08, opened: arrays of integers, slices of arrays, Numbers, findings.
-/
import Derived.Test.YtfidioedjmjddaaGreatQL8e
import Derived.Test.YtfidioedjmjddaaGreatQLw
import Derived.OpenShut
import Derived.Deep.Strs
import Derived.ArgAppend
namespace Go.Proofs.YtfidioedjmjddaaGreat
open Go.ChangeShapes Go.WideShapes Go.ChangeAt Go.RowKit Go.Deep Go.Lib

theorem ints_list : ∀ {cs : List Value}, (∀ u, u ∈ cs → ∃ k : Int, u = .int .i64 k ∧ I64 k) → ∃ zs : List Int, cs = intC zs ∧ ∀ z, z ∈ zs → I64 z
  | [], _ => ⟨[], rfl, by simp⟩
  | u :: cs, h => by
    obtain ⟨k, rfl, hk⟩ := h u (by simp)
    obtain ⟨zs, rfl, hz⟩ := ints_list (cs := cs) (fun u hu => h u (by simp [hu]))
    exact ⟨k :: zs, rfl, fun z hm => by
      rcases List.mem_cons.1 hm with rfl | hm
      · exact hk
      · exact hz z hm⟩

theorem ints_of_array {P : Program} {H : Type} {enc : TypeId × Value → H} {W : World} {t e : TypeId} {n fuel : Nat} {cs : List Value} {x : DataW H × List MemPlace} (ht : P.underlying t = some (.array n e)) (he : P.underlying e = some (.int .i64)) (hc : P.cellsOf e = 1) (hn : P.cellsOf t = n)
    (h : DataW.trod enc P W 0 (fun _ => true) true fuel t cs = some x) : ∃ zs : List Int, cs = intC zs ∧ zs.length = n ∧ ∀ z, z ∈ zs → I64 z := by
  obtain ⟨xs, m, _, _, hl, hx, hi⟩ := DataW.trod_array ht h
  rw [hn] at hl
  obtain ⟨zs, rfl, hz⟩ := ints_list (cs := cs) (fun u hu => by
    obtain ⟨i, hil, rfl⟩ := List.getElem_of_mem hu
    have h1 := hi i (by omega)
    rw [hc, Nat.mul_one, List.drop_eq_getElem_cons hil, List.getElem?_eq_getElem (by omega)] at h1
    obtain ⟨k, h2, h3⟩ := trod_i64 he h1
    exact ⟨k, h2, h3⟩)
  exact ⟨zs, rfl, by simpa using hl, hz⟩

theorem nums_of_trod {P : Program} {H : Type} {enc : TypeId × Value → H} {W : World} {t e i : TypeId} {k fuel : Nat} {v : Value} {x : DataW H × List MemPlace} (ht : P.underlying t = some (.slice e)) (he : P.underlying e = some (.array k i)) (hi : P.underlying i = some (.int .i64)) (hc : P.cellsOf i = 1) (hk : P.cellsOf e = k) (hp : 0 < k)
    (h : DataW.trod enc P W 0 (fun _ => true) true fuel t [v] = some x) : ∃ n is, NumAt W v n k is := by
  rcases open_slice ht h with ⟨hcs, _⟩ | ⟨a, len, cap, m, f, D, Pl, hcs, _, hl, hm, hmm, _, hel⟩
  · simp only [List.cons.injEq, and_true] at hcs
    subst hcs
    exact ⟨0, [], Sl.nil _, by simp, by simp⟩
  · simp only [List.cons.injEq, and_true] at hcs
    subst hcs
    simp only [if_true] at hmm
    have key : ∀ n, n ≤ len → ∃ is : List Int, is.length = n * k ∧ (∀ z, z ∈ is → I64 z) ∧ ∀ j u, (intC is)[j]? = some u → W.cell? (a.add j) = some u := by
      intro n
      induction n with
      | zero => exact fun _ => ⟨[], by simp, by simp, by simp⟩
      | succ n ih =>
        intro hn
        obtain ⟨is, h1, h2, h3⟩ := ih (by omega)
        obtain ⟨cs, hcs, htr⟩ := hel n (by omega)
        rw [hk] at hcs
        obtain ⟨zs, rfl, hz1, hz2⟩ := ints_of_array he hi hc hk htr
        obtain ⟨_, hcl, hat⟩ := World.cells?_some hcs
        refine ⟨is ++ zs, by rw [List.length_append, h1, hz1, Nat.succ_mul], fun z hz => ?_, fun j u hu => ?_⟩
        · rcases List.mem_append.1 hz with hz | hz
          · exact h2 z hz
          · exact hz2 z hz
        · rw [intC, List.map_append] at hu
          rcases Nat.lt_or_ge j is.length with hj | hj
          · rw [List.getElem?_append_left (by simpa using hj)] at hu
            exact h3 j u hu
          · rw [List.getElem?_append_right (by simpa using hj)] at hu
            have hjk : j - is.length < k := by
              have := (List.getElem?_eq_some_iff.1 hu).1
              simp at this; omega
            have h4 := hat (j - is.length) hjk
            rw [Go.Deep.add_add] at h4
            rw [List.length_map] at hu
            rw [hu, h1, show n * k + (j - n * k) = j by omega] at h4
            exact h4
    obtain ⟨is, h1, h2, h3⟩ := key len (Nat.le_refl _)
    refine ⟨len, is, ⟨_, cap, rfl, hl, hm, fun h0 => ?_⟩, h1, h2⟩
    have hpos : 0 < is.length := by rw [h1]; exact Nat.mul_pos h0 hp
    have hu0 := h3 0 (.int .i64 is[0]) (by simp [hpos])
    have ha : a.add 0 = a := by simp [Addr.add]
    rw [ha] at hu0
    have hs := cell_spot hu0
    obtain ⟨b, off, sp⟩ := a
    simp only at hs
    subst hs
    exact ⟨b, off, rfl, fun j u hu => by rw [← addr_add]; exact h3 j u hu⟩

set_option maxRecDepth 100000 in
theorem fds_of_trod {H : Type} {enc : TypeId × Value → H} {W : World} {v : Value} {fuel : Nat} {x : DataW H × List MemPlace} (h : DataW.trod enc Tryz.prog W 0 (fun _ => true) true fuel 34 [v] = some x) : ∃ l : List Fd, Sl W v l.length (l.flatMap fdC) := by
  obtain ⟨a, len, cap, rfl, h1, h2, h3⟩ := structs_of_trod Tryz.underlying34 Tryz.underlying62 (by kernel_rfl) (by kernel_rfl) (by simp) h
  rcases Nat.eq_zero_or_pos len with h0 | h0
  · subst h0
    exact ⟨[], a, cap, rfl, h1, h2, by simp⟩
  · obtain ⟨b, off, rfl, _, hel⟩ := h3 h0
    have key : ∀ n, n ≤ len → ∃ l : List Fd, l.length = n ∧ ∀ i (hi : i < l.length), W.cell? ⟨b, off + (i * 4 + 0), none⟩ = some (.int .i64 l[i].says) ∧ W.cell? ⟨b, off + (i * 4 + 1), none⟩ = some (.bool l[i].holds) ∧ W.cell? ⟨b, off + (i * 4 + 2), none⟩ = some (.int .i64 l[i].fact) ∧ W.cell? ⟨b, off + (i * 4 + 3), none⟩ = some (.int .i64 l[i].cl) := by
      intro n
      induction n with
      | zero => exact fun _ => ⟨[], rfl, by simp⟩
      | succ n ih =>
        intro hn
        obtain ⟨l, hl, hc⟩ := ih (by omega)
        obtain ⟨u0, y0, m0, c0, t0⟩ := hel n (by omega) 0 _ rfl
        obtain ⟨u1, y1, m1, c1, t1⟩ := hel n (by omega) 1 _ rfl
        obtain ⟨u2, y2, m2, c2, t2⟩ := hel n (by omega) 2 _ rfl
        obtain ⟨u3, y3, m3, c3, t3⟩ := hel n (by omega) 3 _ rfl
        obtain ⟨x0, rfl, _⟩ := trod_i64 (t := 3) Tryz.underlying3 t0
        obtain ⟨x1, rfl⟩ := trod_bool (t := 4) Tryz.underlying4 t1
        obtain ⟨x2, rfl, _⟩ := trod_i64 (t := 3) Tryz.underlying3 t2
        obtain ⟨x3, rfl, _⟩ := trod_i64 (t := 3) Tryz.underlying3 t3
        refine ⟨l ++ [⟨x0, x1, x2, x3⟩], by simp [hl], fun i hi => ?_⟩
        simp only [List.length_append, List.length_cons, List.length_nil] at hi
        by_cases hin : i < l.length
        · rw [List.getElem_append_left hin]
          exact hc i hin
        · obtain rfl : i = n := by omega
          rw [List.getElem_append_right (by omega)]
          simp only [hl, Nat.sub_self, List.getElem_cons_zero]
          exact ⟨c0, c1, c2, c3⟩
    obtain ⟨l, hl, hc⟩ := key len (Nat.le_refl _)
    refine ⟨l, some ⟨b, off, none⟩, cap, by rw [hl], by omega, h2, fun _ => ⟨b, off, rfl, fun j u hu => ?_⟩⟩
    have hj : j < l.length * 4 := by
      have := (List.getElem?_eq_some_iff.1 hu).1
      rwa [fdC_len] at this
    obtain ⟨c0, c1, c2, c3⟩ := hc (j / 4) (by omega)
    have hu' : (fdC (l[j / 4]'(by omega)))[j % 4]? = some u := by
      rw [← flat_get (enc := fdC) (k := 4) (fun _ => rfl) l (j / 4) (by omega) (j % 4) (by omega), ← hu]
      congr 1; omega
    have hj4 : j = j / 4 * 4 + j % 4 := by omega
    rw [hj4]
    have hr4 : j % 4 = 0 ∨ j % 4 = 1 ∨ j % 4 = 2 ∨ j % 4 = 3 := by omega
    rcases hr4 with hr | hr | hr | hr
    · rw [hr] at hu' ⊢; rw [c0]; exact hu'
    · rw [hr] at hu' ⊢; rw [c1]; exact hu'
    · rw [hr] at hu' ⊢; rw [c2]; exact hu'
    · rw [hr] at hu' ⊢; rw [c3]; exact hu'

theorem agg_open {P : Program} {H : Type} {enc : TypeId × Value → H} {W : World} {t : TypeId} {cs : Array Value} {d : DataW H} {p : List MemPlace} (h : DataW.Trod enc P W 0 (fun _ => true) true t (.agg cs) d p) : ∃ fuel, DataW.trod enc P W 0 (fun _ => true) true fuel t cs.toList = some (d, p) := by
  obtain ⟨fuel, hf⟩ := h
  exact ⟨fuel, by simpa [Value.cells] using hf⟩


set_option maxRecDepth 100000 in
theorem open_numbers {H : Type} {enc : TypeId × Value → H} {W : World} {base : Nat} {v : Value} {d : DataW H} {p : List MemPlace} (k : Value.okWide Tryz.prog W .any base 25 v) (h : DataW.Trod enc Tryz.prog W 0 (fun _ => true) true 25 v d p) :
    ∃ v1 v2 v3 n1 n2 n3 is1 is2 is3, v = .agg #[v1, v2, v3] ∧ NumAt W v1 n1 6 is1 ∧ NumAt W v2 n2 3 is2 ∧ NumAt W v3 n3 6 is3 := by
  obtain ⟨cs, rfl, hs⟩ := okWide_struct Tryz.underlying25 k
  have hs3 : cs.size = 3 := hs.trans (by kernel_rfl)
  obtain ⟨fuel, hf⟩ := agg_open h
  obtain ⟨y0, y1, y2, n, _, _, g0, g1, g2⟩ := trod_struct3 Tryz.underlying25 hf
  match cs, hs3 with
  | ⟨[c0, c1, c2]⟩, _ =>
    obtain ⟨n1, is1, a1⟩ := nums_of_trod (k := 6) Tryz.underlying22 Tryz.underlying68 Tryz.underlying3 (by kernel_rfl) (by kernel_rfl) (by omega) (show DataW.trod enc Tryz.prog W 0 (fun _ => true) true n 22 [c0] = some y0 from g0)
    obtain ⟨n2, is2, a2⟩ := nums_of_trod (k := 3) Tryz.underlying23 Tryz.underlying72 Tryz.underlying3 (by kernel_rfl) (by kernel_rfl) (by omega) (show DataW.trod enc Tryz.prog W 0 (fun _ => true) true n 23 [c1] = some y1 from g1)
    obtain ⟨n3, is3, a3⟩ := nums_of_trod (k := 6) Tryz.underlying22 Tryz.underlying68 Tryz.underlying3 (by kernel_rfl) (by kernel_rfl) (by omega) (show DataW.trod enc Tryz.prog W 0 (fun _ => true) true n 22 [c2] = some y2 from g2)
    exact ⟨c0, c1, c2, n1, n2, n3, is1, is2, is3, rfl, a1, a2, a3⟩


set_option maxRecDepth 100000 in
theorem open_i4 {H : Type} {enc : TypeId × Value → H} {W : World} {base : Nat} {v : Value} {d : DataW H} {p : List MemPlace} (k : Value.okWide Tryz.prog W .any base 31 v) (h : DataW.Trod enc Tryz.prog W 0 (fun _ => true) true 31 v d p) :
    ∃ a b c d, v = .agg #[.int .i64 a, .int .i64 b, .int .i64 c, .int .i64 d] ∧ I64 a ∧ I64 b ∧ I64 c ∧ I64 d := by
  obtain ⟨cs, rfl⟩ : ∃ cs, v = .agg cs := by
    simp only [Value.okWide, Tryz.underlying31] at k
    obtain ⟨cs, h1, _⟩ := k
    exact ⟨cs, h1⟩
  obtain ⟨fuel, hf⟩ := agg_open h
  obtain ⟨zs, h1, h2, h3⟩ := ints_of_array (n := 4) Tryz.underlying31 Tryz.underlying3 (by kernel_rfl) (by kernel_rfl) hf
  obtain ⟨cs⟩ := cs
  simp only at h1
  subst h1
  match zs, h2 with
  | [a, b, c, d], _ => exact ⟨a, b, c, d, rfl, h3 a (by simp), h3 b (by simp), h3 c (by simp), h3 d (by simp)⟩

end Go.Proofs.YtfidioedjmjddaaGreat

/-
  What the laws of dialtonelaw08 begin with: rules that integers determine, a question, both boxed.
-/
namespace Go.Proofs.YtfidioedjmjddaaGreat
open Go.RowKit Go.Lib

/-- The rules and the question of a law, in their boxes. -/
structure LawSt (w : World) (bc bq : Nat) (vc vr vf : Value) (ys : List ClV) (c : Rb) (q : Qn) (W : World) : Prop where
  fr : Fr [] w W
  cbox : W.heap[bc]? = some (.cells #[vc, vr, vf] 30 (0, 0))
  qbox : W.heap[bq]? = some (.cells #[.int .i64 q.thing, .int .i64 q.says, .int .i64 q.at_, .int .i64 q.known] 33 (0, 0))
  own : RbOwn (w.heap.size + 3) W vc vr vf ys c
  made : MadeOk c
  ok : okB c q = true
theorem LawSt.same {w : World} {bc bq : Nat} {vc vr vf : Value} {ys : List ClV} {c : Rb} {q : Qn} {W W' : World} (h : LawSt w bc bq vc vr vf ys c q W) (hf : Fr [] W W') : LawSt w bc bq vc vr vf ys c q W' :=
  ⟨h.fr.trans hf, hf.keep h.cbox (by simp), hf.keep h.qbox (by simp), h.own.same hf, h.made, h.ok⟩
theorem LawSt.at_ {w : World} {bc bq : Nat} {vc vr vf : Value} {ys : List ClV} {c : Rb} {q : Qn} {W : World} (h : LawSt w bc bq vc vr vf ys c q W) : RbAt W vc vr vf ys c := h.own.at_ h.made.ok

theorem LawSt.cells {w : World} {bc bq : Nat} {vc vr vf : Value} {ys : List ClV} {c : Rb} {x0 x1 x2 x3 : Int} {W : World} (h : LawSt w bc bq vc vr vf ys c ⟨x0, x1, x2, x3⟩ W) :
    (W.cell? ⟨bc, 0, none⟩ = some vc ∧ W.cell? ⟨bc, 1, none⟩ = some vr ∧ W.cell? ⟨bc, 2, none⟩ = some vf) ∧ W.cell? ⟨bq, 0, none⟩ = some (.int .i64 x0) ∧ W.cell? ⟨bq, 1, none⟩ = some (.int .i64 x1) ∧ W.cell? ⟨bq, 2, none⟩ = some (.int .i64 x2) ∧ W.cell? ⟨bq, 3, none⟩ = some (.int .i64 x3) :=
  ⟨⟨cell_of_blk h.cbox 0, cell_of_blk h.cbox 1, cell_of_blk h.cbox 2⟩, cell_of_blk h.qbox 0, cell_of_blk h.qbox 1, cell_of_blk h.qbox 2, cell_of_blk h.qbox 3⟩
theorem LawSt.check {w : World} {bc bq : Nat} {vc vr vf : Value} {ys : List ClV} {c : Rb} {x0 x1 x2 x3 : Int} {W : World} (h : LawSt w bc bq vc vr vf ys c ⟨x0, x1, x2, x3⟩ W) (vl : Value) (l : List Fd) (a b : Bool) (hl : Sl W vl l.length (l.flatMap fdC)) (hb : checkB c ⟨x0, x1, x2, x3⟩ a l = b) :
    Calls Tryz.prog 21 #[.agg #[vc, vr, vf], .agg #[.int .i64 x0, .int .i64 x1, .int .i64 x2, .int .i64 x3], .bool a, vl] W fun e w' => e = .returned (.bool b) ∧ Fr [] W w' := by
  subst hb
  exact check_c vc vr vf vl ys c ⟨x0, x1, x2, x3⟩ a l W h.at_ hl

def askQ (a b c d : Int) : Qn := ⟨pickI a 3, pickI b 8, pickI c 100, pickI d 100⟩
structure AskM (q : Qn) : Prop where
  thing : 0 ≤ q.thing ∧ q.thing < 3
  says : 0 ≤ q.says ∧ q.says < 8
  at_ : 0 ≤ q.at_ ∧ q.at_ < 100
  known : 0 ≤ q.known ∧ q.known < 100
theorem askQ_m (a b c d : Int) : AskM (askQ a b c d) := ⟨pickI_bound a 3 (by omega), pickI_bound b 8 (by omega), pickI_bound c 100 (by omega), pickI_bound d 100 (by omega)⟩
theorem AskM.asks {q : Qn} (h : AskM q) : asksB q = true := by
  have h1 := h.thing; have h2 := h.says; have h3 := h.at_; have h4 := h.known
  simp only [asksB, secB, isInB, Bool.and_eq_true, decide_eq_true_eq]
  omega
theorem ok_of {c : Rb} {q : Qn} (h : MadeOk c) (hq : AskM q) : okB c q = true := by
  simp only [okB, Bool.and_eq_true]
  exact ⟨h.valid, hq.asks⟩

theorem decide_len {c : Rb} {q : Qn} (h : okB c q = true) : 0 < (decideL c q).length ∧ (decideL c q).length ≤ 20 := by
  have h1 := decide_checks h
  simp only [checkB, provesB, Bool.and_eq_true, decide_eq_true_eq] at h1
  refine ⟨List.length_pos_iff.2 h1.2.1.1.2, ?_⟩
  have h2 : q.says ≤ 19 := by
    simp only [okB, asksB, Bool.and_eq_true, isInB_iff] at h
    exact h.2.1.1.2.2
  unfold decideL
  refine Nat.le_trans (prune_len _ _) ?_
  rw [fdTo_length]; omega

/-- Blocks that are made one after the other. -/
def allocs (w : World) : List Obj → World
  | [] => w
  | o :: l => allocs (w.alloc o) l
theorem allocs_fr : ∀ (l : List Obj) (w : World), Fr [] w (allocs w l)
  | [], _ => Fr.refl _ _
  | o :: l, w => (Fr.alloc _ w o).trans (allocs_fr l _)
theorem allocs_at : ∀ (l : List Obj) (w : World) (i : Nat) (h : i < l.length), (allocs w l).heap[w.heap.size + i]? = some l[i]
  | o :: l, w, 0, _ => (allocs_fr l (w.alloc o)).keep (heap_alloc_new w o) (by simp)
  | o :: l, w, i + 1, h => by
    have := allocs_at l (w.alloc o) i (by simpa using h)
    have hs : (w.alloc o).heap.size = w.heap.size + 1 := Array.size_push ..
    rw [hs, show w.heap.size + 1 + i = w.heap.size + (i + 1) by omega] at this
    exact this

/-- A part of a row that is owned can be read. -/
theorem srcAt_part {w : World} {e : TypeId} {size g n cap : Nat} {xs : List Value} (h : w.ownsRow 0 e size (.slice (some ⟨g, 0, none⟩) n cap) n xs) (i m c' off : Nat) (hi : i + m ≤ n) (ho : off = i * size ∨ m = 0) :
    SrcAt w (.slice (some ⟨g, off, none⟩) m c') m ((xs.drop (i * size)).take (m * size)) := by
  refine ⟨.inr ⟨_, c', rfl, fun j u hu => ?_⟩⟩
  rcases h.2 with ⟨h0, _⟩ | ⟨g', cap', cur, hv, _, hg, r1, r2, r3, r4⟩
  · cases h0
  · cases hv
    have hj : j < m * size := by
      have := (List.getElem?_eq_some_iff.1 hu).1
      simp at this; omega
    rcases ho with ho | ho
    · subst ho
      rw [addr_add, cell_of_blk hg]
      rw [List.getElem?_take_of_lt hj, List.getElem?_drop] at hu
      have hlt : i * size + j < n * size := by
        have : (i + m) * size ≤ n * size := Nat.mul_le_mul_right size hi
        rw [Nat.add_mul] at this; omega
      rw [← r4, List.getElem?_take_of_lt hlt, Array.getElem?_toList] at hu
      exact hu
    · subst ho; simp at hj

/-- An empty slice literal. -/
theorem row_empty (w : World) (e : TypeId) (size : Nat) : (w.alloc (.cells #[] e)).ownsRow 0 e size (.slice (some ⟨w.heap.size, 0, none⟩) 0 0) 0 [] :=
  ⟨by simp, .inr ⟨w.heap.size, 0, #[], rfl, Nat.zero_le _, heap_alloc_new _ _, Nat.le_refl _, Nat.zero_le _, by simp, by simp⟩⟩

theorem fd_head (l : List Fd) (k : Nat) : ((l.flatMap fdC).drop (0 * 4)).take (k * 4) = (l.take k).flatMap fdC := by rw [Nat.zero_mul, List.drop_zero, ← flat_take]
theorem fd_tail (l : List Fd) (k : Nat) : ((l.flatMap fdC).drop (k * 4)).take ((l.length - k) * 4) = (l.drop k).flatMap fdC := by
  rw [← flat_drop, List.take_of_length_le]
  rw [fdC_len]; simp

end Go.Proofs.YtfidioedjmjddaaGreat

/-
  dialtoneref08: BentProof, Has; dialtonelaw08: index.
-/
namespace Go.Proofs.YtfidioedjmjddaaGreat
open Go.RowKit Go.Lib

/-- Findings that can be read. -/
structure FdAt (w : World) (v : Value) (l : List Fd) : Prop where
  sl : Sl w v l.length (l.flatMap fdC)
  src : SrcAt w v l.length (l.flatMap fdC)
theorem FdAt.same {w w' : World} {v : Value} {l : List Fd} (h : FdAt w v l) (hf : Fr [] w w') : FdAt w' v l := ⟨h.sl.same hf, h.src.same hf⟩
theorem fdAt_of_row {w : World} {v : Value} {l : List Fd} (h : FdRow w v l) : FdAt w v l := ⟨sl_of_row h, srcAt_of_row h⟩

/-- A cell of a row is written. -/
theorem row_set {w : World} {e : TypeId} {size g n cap : Nat} {xs : List Value} (h : w.ownsRow 0 e size (.slice (some ⟨g, 0, none⟩) n cap) n xs) (i : Nat) (u : Value) (_hi : i < xs.length) : (w.setCell ⟨g, i, none⟩ u).ownsRow 0 e size (.slice (some ⟨g, 0, none⟩) n cap) n (xs.set i u) := by
  obtain ⟨hl, h2⟩ := h
  refine ⟨by simpa using hl, ?_⟩
  rcases h2 with ⟨h0, _⟩ | ⟨g', cap', cur, hv, r0, hg, r1, r2, r3, r4⟩
  · cases h0
  · cases hv
    refine .inr ⟨g, cap, _, rfl, r0, heap_setCell_same u hg, r1, r2, by simpa using r3, ?_⟩
    rw [← r4, ← List.take_set]
    simp
theorem flat_set (l : List Fd) (k j : Nat) (x : Fd) (u : Value) (hk : k < l.length) (hj : j < 4) (hx : (fdC l[k]).set j u = fdC x) : (l.flatMap fdC).set (k * 4 + j) u = (l.set k x).flatMap fdC := by
  induction l generalizing k with
  | nil => simp at hk
  | cons y l ih =>
    cases k with
    | zero =>
      simp only [List.getElem_cons_zero] at hx
      simp only [List.flatMap_cons, List.set_cons_zero, Nat.zero_mul, Nat.zero_add]
      rw [List.set_append_left _ _ (by simpa [fdC] using hj), hx]
    | succ k =>
      simp only [List.getElem_cons_succ] at hx
      simp only [List.flatMap_cons, List.set_cons_succ]
      rw [List.set_append_right _ _ (by simp [fdC]; omega), ← ih k (by simpa using hk) hx]
      congr 2
      simp [fdC]; omega
theorem fdRow_set {w : World} {g cap : Nat} {l : List Fd} (h : FdRow w (.slice (some ⟨g, 0, none⟩) l.length cap) l) (k j : Nat) (x : Fd) (u : Value) (hk : k < l.length) (hj : j < 4) (hx : (fdC l[k]).set j u = fdC x) : FdRow (w.setCell ⟨g, k * 4 + j, none⟩ u) (.slice (some ⟨g, 0, none⟩) l.length cap) (l.set k x) := by
  have h1 := row_set h (k * 4 + j) u (by rw [fdC_len]; omega)
  rw [flat_set l k j x u hk hj hx] at h1
  unfold FdRow
  rw [List.length_set]
  exact h1
theorem fdRow_cells {w : World} {g cap : Nat} {l : List Fd} (h : FdRow w (.slice (some ⟨g, 0, none⟩) l.length cap) l) (k : Nat) (hk : k < l.length) : w.cell? ⟨g, k * 4, none⟩ = some (.int .i64 l[k].says) ∧ w.cell? ⟨g, k * 4 + 1, none⟩ = some (.bool l[k].holds) ∧ w.cell? ⟨g, k * 4 + 2, none⟩ = some (.int .i64 l[k].fact) ∧ w.cell? ⟨g, k * 4 + 3, none⟩ = some (.int .i64 l[k].cl) := by
  have hc := h.cells (g := g) rfl
  have key : ∀ j u, j < 4 → (fdC l[k])[j]? = some u → w.cell? ⟨g, k * 4 + j, none⟩ = some u := fun j u hj hu => by
    have := hc (k * 4 + j) u ((flat_get (enc := fdC) (k := 4) (fun _ => rfl) l k hk j hj).trans hu)
    rwa [addr_add, Nat.zero_add] at this
  exact ⟨key 0 _ (by omega) rfl, key 1 _ (by omega) rfl, key 2 _ (by omega) rfl, key 3 _ (by omega) rfl⟩
theorem fdRow_free {w : World} {g cap n : Nat} {l : List Fd} (h : w.ownsRow 0 62 4 (.slice (some ⟨g, 0, none⟩) n cap) n (l.flatMap fdC)) (i : Nat) : w.frozen? ⟨g, i, none⟩ = false := by
  rcases h.2 with ⟨h0, _⟩ | ⟨g', cap', cur, hv, r0, hg, _⟩
  · cases h0
  · cases hv; exact free_of_blk hg i

/-- append where there is no room. -/
theorem wp_append_grows {P : Program} {w : World} {o : Oper} {a : Act} {K : Act → World → Prop} {Q : Exit → Act → World → Prop} (s x : Operand) (t e : TypeId) (z : Value) (size bytes : Nat)
    (ho : o.op = .call { callee := .builtin .append, args := #[s, x], argTypes := #[t, t] }) (ht : P.underlying t = some (.slice e)) (hinfo : (P.info? e).map (fun i => (i.zero, i.size, i.bytes)) = some (some z, size, bytes)) (hzs : z.cells.size = size) (hsz : 0 < size)
    (b : Addr) (n cap : Nat) (olds : List Value) (hs : a.eval s = .slice (some b) n cap) (hlo : olds.length = n * size) (holds : ∀ j u, olds[j]? = some u → w.cell? (b.add j) = some u)
    (ad : Addr) (m c : Nat) (news : List Value) (hx : a.eval x = .slice (some ad) m c) (hn : news.length = m * size) (hc : ∀ j u, news[j]? = some u → w.cell? (ad.add j) = some u)
    (hfull : cap < n + m) (b1 : n + m ≤ 9223372036854775807) (b2 : (n + m) * bytes ≤ 140737488355328)
    (h : ∀ v' w', w'.ownsRow w.heap.size e size v' (n + m) (olds ++ news) → Fr [] w w' → K (a.put o.dst v') w') : o.wp P a w K Q := by
  obtain ⟨i, hi, hz0, hz1, hz2⟩ := info_parts hinfo
  obtain ⟨v', w', hrun, r1, r2⟩ := run_append_arg_grows (P := P) w t o.type e i z size bytes ht hi hz0 hz1 hz2 hzs hsz b n cap olds hlo holds ad m c news hn hc hfull b1 b2
  unfold Oper.wp execOp
  simp only [ho, resolve, invoke, builtin, Sem.run_bind, Sem.run_pure, Result.andThen_ok, List.map_toArray, List.map_cons, List.map_nil, hs, hx, hrun]
  exact h v' w' r1 (Fr.grown r2 fun k hk => by cases hk)
theorem row_base {w : World} {N : Nat} {e : TypeId} {size : Nat} {v : Value} {n : Nat} {xs : List Value} (h : w.ownsRow N e size v n xs) : w.ownsRow 0 e size v n xs := by
  refine ⟨h.1, ?_⟩
  rcases h.2 with h | ⟨g, cap, cur, h1, _, h2⟩
  · exact .inl h
  · exact .inr ⟨g, cap, cur, h1, Nat.zero_le _, h2⟩

end Go.Proofs.YtfidioedjmjddaaGreat

/-
  Rules in a box, under construction; dialtoneref08's Copy.
-/
namespace Go.Proofs.YtfidioedjmjddaaGreat
open Go.RowKit Go.Lib

/-- The walk leaves a goal of this name as it is. -/
theorem stop_in {p : Prop} (roundEnd : p) (_other : True) : p := roundEnd

/-- Is g one of the blocks of the rules? -/
def RbHas (vc vr vf : Value) (ys : List ClV) (g : Nat) : Prop := vc.ownBlock = some g ∨ vr.ownBlock = some g ∨ vf.ownBlock = some g ∨ ∃ y, y ∈ ys ∧ (y.vn.ownBlock = some g ∨ y.vb.ownBlock = some g)
theorem RbOwn.lt {N : Nat} {W : World} {vc vr vf : Value} {ys : List ClV} {c : Rb} (h : RbOwn N W vc vr vf ys c) {g : Nat} (hg : RbHas vc vr vf ys g) : g < W.heap.size := by
  rcases hg with hg | hg | hg | ⟨y, hy, hg⟩
  · exact ownsRow_lt h.cls hg
  · exact ownsRow_lt h.rps hg
  · exact ownsRow_lt h.fas hg
  · exact (h.term y hy g hg).2.1
theorem RbOwn.frH {N : Nat} {W W' : World} {vc vr vf : Value} {ys : List ClV} {c : Rb} {S : List Nat} (h : RbOwn N W vc vr vf ys c) (hf : Fr S W W') (hS : ∀ g, RbHas vc vr vf ys g → g ∉ S) : RbOwn N W' vc vr vf ys c :=
  ⟨h.eq, row_fr h.cls hf (fun g hg => hS g (.inl hg)), row_fr h.rps hf (fun g hg => hS g (.inr (.inl hg))), row_fr h.fas hf (fun g hg => hS g (.inr (.inr (.inl hg)))),
    fun y hy => (h.needs y hy).fr hf (fun g hg => hS g (.inr (.inr (.inr ⟨y, hy, .inl hg⟩)))), fun y hy => (h.bars y hy).fr hf (fun g hg => hS g (.inr (.inr (.inr ⟨y, hy, .inr hg⟩)))),
    fun y hy g hg => ⟨(h.term y hy g hg).1, Nat.lt_of_lt_of_le (h.term y hy g hg).2.1 hf.size, (h.term y hy g hg).2.2⟩, h.nc, h.nr, h.nf⟩

/-- Rules in the box b, their rows and the box newer than w. -/
structure BxS (w : World) (b : Nat) (vc vr vf : Value) (ys : List ClV) (c : Rb) (W : World) : Prop where
  fr : Fr [] w W
  hb : w.heap.size ≤ b
  box : W.heap[b]? = some (.cells #[vc, vr, vf] 30 (0, 0))
  own : RbOwn 0 W vc vr vf ys c
  rows : ∀ g, vc.ownBlock = some g ∨ vr.ownBlock = some g ∨ vf.ownBlock = some g → w.heap.size ≤ g
  nb : ¬ RbHas vc vr vf ys b
theorem BxS.same {w : World} {b : Nat} {vc vr vf : Value} {ys : List ClV} {c : Rb} {W W' : World} (h : BxS w b vc vr vf ys c W) (hf : Fr [] W W') : BxS w b vc vr vf ys c W' :=
  ⟨h.fr.trans hf, h.hb, hf.keep h.box (by simp), h.own.same hf, h.rows, h.nb⟩
theorem BxS.store {w : World} {b : Nat} {vc vr vf vc' vr' vf' v' : Value} {ys : List ClV} {c : Rb} {W W1 : World} {S : List Nat} {j : Nat} {ys' : List ClV} {c' : Rb} (h : BxS w b vc vr vf ys c W) (hf1 : Fr S W W1) (hS : ∀ g, g ∈ S → w.heap.size ≤ g ∧ g ≠ b)
    (own : RbOwn 0 W1 vc' vr' vf' ys' c') (rows : ∀ g, vc'.ownBlock = some g ∨ vr'.ownBlock = some g ∨ vf'.ownBlock = some g → w.heap.size ≤ g) (nb : ¬ RbHas vc' vr' vf' ys' b) (he : #[vc, vr, vf].setIfInBounds j v' = #[vc', vr', vf']) : BxS w b vc' vr' vf' ys' c' (W1.setCell ⟨b, j, none⟩ v') := by
  have hsc : Fr [b] W1 (W1.setCell ⟨b, j, none⟩ v') := Fr.setCell _ _ (by simp)
  refine ⟨(h.fr.step hf1 (fun i hi => .inr (hS i hi).1)).step hsc (fun i hi => .inr (by simp at hi; rw [hi]; exact h.hb)), h.hb, ?_, own.frH hsc (fun g hg hm => by simp at hm; subst hm; exact nb hg), rows, nb⟩
  rw [heap_setCell_same _ (hf1.keep h.box (fun hm => (hS b hm).2 rfl)), he]
theorem new_ne {W : World} {v v' : Value} {b : Nat} (ho : v'.ownBlock = v.ownBlock ∨ v'.ownBlock = some W.heap.size) (hb : b < W.heap.size) (hv : v.ownBlock ≠ some b) : v'.ownBlock ≠ some b := fun he => by
  rcases ho with ho | ho
  · exact hv (ho ▸ he)
  · rw [ho] at he; cases he; omega
theorem new_ge {W : World} {v v' : Value} {n : Nat} (ho : v'.ownBlock = v.ownBlock ∨ v'.ownBlock = some W.heap.size) (hn : n ≤ W.heap.size) (hv : ∀ g, v.ownBlock = some g → n ≤ g) : ∀ g, v'.ownBlock = some g → n ≤ g := fun g hg => by
  rcases ho with ho | ho
  · exact hv g (ho ▸ hg)
  · rw [ho] at hg; cases hg; exact hn
theorem BxS.putCl {w : World} {b : Nat} {vc vr vf v' : Value} {ys : List ClV} {c : Rb} {W W1 : World} {y : ClV} {n : Nat} {xs : List Value} (h : BxS w b vc vr vf ys c W) (h1 : IntsR W y.vn y.x.needs) (h2 : IntsR W y.vb y.x.bars)
    (hb : ∀ g, y.vn.ownBlock = some g ∨ y.vb.ownBlock = some g → g < W.heap.size ∧ g ≠ b ∧ vc.ownBlock ≠ some g ∧ vr.ownBlock ≠ some g ∧ vf.ownBlock ≠ some g) (hr : W1.ownsRow 0 67 6 v' n xs) (hn : n = ys.length + 1) (hx : xs = ys.flatMap clC ++ clC y)
    (hf1 : Fr vc.ownBlock.toList W W1) (ho : v'.ownBlock = vc.ownBlock ∨ v'.ownBlock = some W.heap.size) :
    BxS w b v' vr vf (ys ++ [y]) ⟨c.cls ++ [y.x], c.rps, c.fas⟩ (W1.setCell ⟨b, 0, none⟩ v') := by
  have hbl := blk_lt h.box
  refine h.store hf1 (fun g hg => ⟨h.rows g (.inl (by simpa using hg)), fun e => h.nb (.inl (by subst e; simpa using hg))⟩)
    (h.own.addCl (y := y) (Nat.zero_le _) hr hn hx hf1 ho h1 h2 (fun g hg => ⟨Nat.zero_le _, (hb g hg).1, (hb g hg).2.2⟩)) (fun g hg => ?_) (fun hg => ?_) rfl
  · rcases hg with hg | hg | hg
    · exact new_ge ho h.fr.size (fun g hg => h.rows g (.inl hg)) g hg
    · exact h.rows g (.inr (.inl hg))
    · exact h.rows g (.inr (.inr hg))
  · rcases hg with hg | hg | hg | ⟨z, hz, hg⟩
    · exact new_ne ho hbl (fun e => h.nb (.inl e)) hg
    · exact h.nb (.inr (.inl hg))
    · exact h.nb (.inr (.inr (.inl hg)))
    · rcases List.mem_append.1 hz with hz | hz
      · exact h.nb (.inr (.inr (.inr ⟨z, hz, hg⟩)))
      · simp only [List.mem_singleton] at hz; subst hz; exact (hb b hg).2.1 rfl
theorem fr_ne {W : World} {v v' : Value} {b : Nat} (ho : ∀ g, v'.ownBlock = some g → v.ownBlock = some g ∨ W.heap.size ≤ g) (hb : b < W.heap.size) (hv : v.ownBlock ≠ some b) : v'.ownBlock ≠ some b := fun he => by
  rcases ho b he with ho | ho
  · exact hv ho
  · omega
theorem fr_ge {W : World} {v v' : Value} {n : Nat} (ho : ∀ g, v'.ownBlock = some g → v.ownBlock = some g ∨ W.heap.size ≤ g) (hn : n ≤ W.heap.size) (hv : ∀ g, v.ownBlock = some g → n ≤ g) : ∀ g, v'.ownBlock = some g → n ≤ g := fun g hg => by
  rcases ho g hg with ho | ho
  · exact hv g ho
  · omega
theorem own_new {W : World} {v v' : Value} (ho : v'.ownBlock = v.ownBlock ∨ v'.ownBlock = some W.heap.size) : ∀ g, v'.ownBlock = some g → v.ownBlock = some g ∨ W.heap.size ≤ g := fun g hg => by
  rcases ho with ho | ho
  · exact .inl (ho ▸ hg)
  · rw [ho] at hg; cases hg; exact .inr (Nat.le_refl _)
theorem BxS.putRp {w : World} {b : Nat} {vc vr vf v' : Value} {ys : List ClV} {c : Rb} {W W1 : World} {rs : List Rp} {n : Nat} {xs : List Value} (h : BxS w b vc vr vf ys c W)
    (hr : W1.ownsRow 0 60 3 v' n xs) (hn : n = (c.rps ++ rs).length) (hx : xs = (c.rps ++ rs).flatMap rpC)
    (hf1 : Fr vr.ownBlock.toList W W1) (ho : ∀ g, v'.ownBlock = some g → vr.ownBlock = some g ∨ W.heap.size ≤ g) :
    BxS w b vc v' vf ys ⟨c.cls, c.rps ++ rs, c.fas⟩ (W1.setCell ⟨b, 1, none⟩ v') := by
  have hbl := blk_lt h.box
  subst hn hx
  refine h.store hf1 (fun g hg => ⟨h.rows g (.inr (.inl (by simpa using hg))), fun e => h.nb (.inr (.inl (by subst e; simpa using hg)))⟩) ?_ (fun g hg => ?_) (fun hg => ?_) rfl
  · have k := h.own
    refine ⟨k.eq, row_fr k.cls hf1 (fun g hg hm => (k.nc g hg).2.1 (by simpa using hm)), hr, row_fr k.fas hf1 (fun g hg hm => (k.nr g (by simpa using hm)).2 hg), ?_, ?_, ?_, ?_, ?_, k.nf⟩
    · exact fun z hz => (k.needs z hz).fr hf1 (fun g hg hm => (k.term z hz g (.inl hg)).2.2.2.1 (by simpa using hm))
    · exact fun z hz => (k.bars z hz).fr hf1 (fun g hg hm => (k.term z hz g (.inr hg)).2.2.2.1 (by simpa using hm))
    · exact fun z hz g hg => by
        obtain ⟨k1, k2, k3, k4, k5⟩ := k.term z hz g hg
        exact ⟨k1, Nat.lt_of_lt_of_le k2 hf1.size, k3, fr_ne ho k2 k4, k5⟩
    · exact fun g hg => ⟨(k.nc g hg).1, fr_ne ho (ownsRow_lt k.cls hg) (k.nc g hg).2.1, (k.nc g hg).2.2⟩
    · intro g hg
      refine ⟨Nat.zero_le _, fun he => ?_⟩
      rcases ho g hg with ho | ho
      · exact (k.nr g ho).2 he
      · have := ownsRow_lt k.fas he; omega
  · rcases hg with hg | hg | hg
    · exact h.rows g (.inl hg)
    · exact fr_ge ho h.fr.size (fun g hg => h.rows g (.inr (.inl hg))) g hg
    · exact h.rows g (.inr (.inr hg))
  · rcases hg with hg | hg | hg | hg
    · exact h.nb (.inl hg)
    · exact fr_ne ho hbl (fun e => h.nb (.inr (.inl e))) hg
    · exact h.nb (.inr (.inr (.inl hg)))
    · exact h.nb (.inr (.inr (.inr hg)))
theorem BxS.putFa {w : World} {b : Nat} {vc vr vf v' : Value} {ys : List ClV} {c : Rb} {W W1 : World} {rs : List Fa} {n : Nat} {xs : List Value} (h : BxS w b vc vr vf ys c W)
    (hr : W1.ownsRow 0 74 6 v' n xs) (hn : n = (c.fas ++ rs).length) (hx : xs = (c.fas ++ rs).flatMap faC)
    (hf1 : Fr vf.ownBlock.toList W W1) (ho : ∀ g, v'.ownBlock = some g → vf.ownBlock = some g ∨ W.heap.size ≤ g) :
    BxS w b vc vr v' ys ⟨c.cls, c.rps, c.fas ++ rs⟩ (W1.setCell ⟨b, 2, none⟩ v') := by
  have hbl := blk_lt h.box
  subst hn hx
  refine h.store hf1 (fun g hg => ⟨h.rows g (.inr (.inr (by simpa using hg))), fun e => h.nb (.inr (.inr (.inl (by subst e; simpa using hg))))⟩) ?_ (fun g hg => ?_) (fun hg => ?_) rfl
  · have k := h.own
    refine ⟨k.eq, row_fr k.cls hf1 (fun g hg hm => (k.nc g hg).2.2 (by simpa using hm)), row_fr k.rps hf1 (fun g hg hm => (k.nr g hg).2 (by simpa using hm)), hr, ?_, ?_, ?_, ?_, ?_, fun g _ => Nat.zero_le _⟩
    · exact fun z hz => (k.needs z hz).fr hf1 (fun g hg hm => (k.term z hz g (.inl hg)).2.2.2.2 (by simpa using hm))
    · exact fun z hz => (k.bars z hz).fr hf1 (fun g hg hm => (k.term z hz g (.inr hg)).2.2.2.2 (by simpa using hm))
    · exact fun z hz g hg => by
        obtain ⟨k1, k2, k3, k4, k5⟩ := k.term z hz g hg
        exact ⟨k1, Nat.lt_of_lt_of_le k2 hf1.size, k3, k4, fr_ne ho k2 k5⟩
    · exact fun g hg => ⟨(k.nc g hg).1, (k.nc g hg).2.1, fr_ne ho (ownsRow_lt k.cls hg) (k.nc g hg).2.2⟩
    · exact fun g hg => ⟨(k.nr g hg).1, fr_ne ho (ownsRow_lt k.rps hg) (k.nr g hg).2⟩
  · rcases hg with hg | hg | hg
    · exact h.rows g (.inl hg)
    · exact h.rows g (.inr (.inl hg))
    · exact fr_ge ho h.fr.size (fun g hg => h.rows g (.inr (.inr hg))) g hg
  · rcases hg with hg | hg | hg | hg
    · exact h.nb (.inl hg)
    · exact h.nb (.inr (.inl hg))
    · exact fr_ne ho hbl (fun e => h.nb (.inr (.inr (.inl e)))) hg
    · exact h.nb (.inr (.inr (.inr hg)))
theorem BxS.start {w W : World} {b : Nat} (hf : Fr [] w W) (hb : w.heap.size ≤ b) (hx : W.heap[b]? = some (.cells #[.slice none 0 0, .slice none 0 0, .slice none 0 0] 30 (0, 0))) : BxS w b (.slice none 0 0) (.slice none 0 0) (.slice none 0 0) [] ⟨[], [], []⟩ W := by
  refine ⟨hf, hb, hx, RbOwn.start _ _, fun g hg => ?_, fun hg => ?_⟩
  · rcases hg with hg | hg | hg <;> cases hg
  · rcases hg with hg | hg | hg | ⟨y, hy, _⟩
    · cases hg
    · cases hg
    · cases hg
    · cases hy
/-- Rules that a call has returned are put into a box. -/
theorem BxS.boxed {w W : World} {N : Nat} {vc vr vf : Value} {ys : List ClV} {c : Rb} (hf : Fr [] w W) (h : RbOwn N W vc vr vf ys c) (rows : ∀ g, vc.ownBlock = some g ∨ vr.ownBlock = some g ∨ vf.ownBlock = some g → w.heap.size ≤ g) :
    BxS w W.heap.size vc vr vf ys c (W.alloc (.cells #[vc, vr, vf] 30)) :=
  ⟨hf.trans (Fr.alloc _ _ _), hf.size, heap_alloc_new _ _, (h.older (Nat.zero_le _)).same (Fr.alloc _ _ _), rows, fun hg => by have := h.lt hg; omega⟩

/-- An empty block as a slice. -/
theorem row_blk0 {w : World} {b : Nat} {e : TypeId} (h : w.heap[b]? = some (.cells #[] e (0, 0))) (size : Nat) : w.ownsRow 0 e size (.slice (some ⟨b, 0, none⟩) 0 0) 0 [] :=
  ⟨by simp, .inr ⟨b, 0, #[], rfl, Nat.zero_le _, h, Nat.le_refl _, Nat.zero_le _, by simp, by simp⟩⟩
theorem rpC_len (l : List Rp) : (l.flatMap rpC).length = l.length * 3 := flat_len (enc := rpC) (k := 3) (fun _ => rfl) l
theorem faC_len (l : List Fa) : (l.flatMap faC).length = l.length * 6 := flat_len (enc := faC) (k := 6) (fun _ => rfl) l
theorem rpC_one (l : List Rp) : ∀ u, u ∈ l.flatMap rpC → u.oneCell' = true := by
  intro u hu
  obtain ⟨x, _, hx⟩ := List.mem_flatMap.1 hu
  simp only [rpC, List.mem_cons, List.not_mem_nil, or_false] at hx
  rcases hx with rfl | rfl | rfl <;> rfl
theorem faC_one (l : List Fa) : ∀ u, u ∈ l.flatMap faC → u.oneCell' = true := by
  intro u hu
  obtain ⟨x, _, hx⟩ := List.mem_flatMap.1 hu
  simp only [faC, List.mem_cons, List.not_mem_nil, or_false] at hx
  rcases hx with rfl | rfl | rfl | rfl | rfl | rfl <;> rfl
theorem intC_one (l : List Int) : ∀ u, u ∈ intC l → u.oneCell' = true := by
  intro u hu
  simp only [intC, List.mem_map] at hu
  obtain ⟨x, _, rfl⟩ := hu
  rfl
/-- A clause's cells. -/
theorem clRow_cells {w : World} {vc : Value} {ys : List ClV} (h : Sl w vc ys.length (ys.flatMap clC)) (k : Nat) (hk : k < ys.length) : ∃ b off cap, vc = .slice (some ⟨b, off, none⟩) ys.length cap ∧ ∀ j u, (clC ys[k])[j]? = some u → w.cell? ⟨b, off + k * 6 + j, none⟩ = some u := by
  obtain ⟨a, cap, rfl⟩ := h.val
  obtain ⟨b, off, rfl, hc⟩ := h.at_ (by omega)
  refine ⟨b, off, cap, rfl, fun j u hu => ?_⟩
  have hj : j < 6 := by have := (List.getElem?_eq_some_iff.1 hu).1; simpa [clC] using this
  have := hc (k * 6 + j) u ((flat_get (enc := clC) (k := 6) (fun _ => rfl) ys k hk j hj).trans hu)
  rwa [← Nat.add_assoc] at this

end Go.Proofs.YtfidioedjmjddaaGreat

/-
  dialtoneref08: Copy.
-/
namespace Go.Proofs.YtfidioedjmjddaaGreat
open Go.RowKit Go.Lib

/-- Few enough to be copied. -/
structure RbFew (c : Rb) : Prop where
  nc : c.cls.length ≤ 100
  nr : c.rps.length ≤ 100
  nf : c.fas.length ≤ 100
  needs : ∀ x, x ∈ c.cls → x.needs.length ≤ 100
  bars : ∀ x, x ∈ c.cls → x.bars.length ≤ 100
theorem MadeOk.few {c : Rb} (h : MadeOk c) : RbFew c :=
  ⟨by have := h.nc; omega, by have := h.nr; omega, by have := h.nf; omega, fun x hx => by have := (h.cls x hx).needs.len; omega, fun x hx => by have := (h.cls x hx).bars.len; omega⟩

abbrev cpW (w : World) (v1 v2 v3 : Value) : World := ((w.alloc (.cells #[v1, v2, v3] 30)).alloc (.cells #[.slice none 0 0, .slice none 0 0, .slice none 0 0] 30)).alloc (.cells #[.slice none 0 0, .slice none 0 0, .slice none 0 0] 30)
/-- Copy under way. -/
structure CpS (w : World) (v1 v2 v3 oc or_ of_ : Value) (zs : List ClV) (d : Rb) (W : World) : Prop where
  bx : BxS w (w.heap.size + 1 + 1) oc or_ of_ zs d W
  b1 : W.heap[w.heap.size]? = some (.cells #[v1, v2, v3] 30 (0, 0))
  b2 : W.heap[w.heap.size + 1]? = some (.cells #[.slice none 0 0, .slice none 0 0, .slice none 0 0] 30 (0, 0))
  fresh : ∀ g, oc.ownBlock = some g ∨ or_.ownBlock = some g ∨ of_.ownBlock = some g → w.heap.size + 3 ≤ g
  tfresh : ∀ y, y ∈ zs → ∀ g, y.vn.ownBlock = some g ∨ y.vb.ownBlock = some g → w.heap.size + 3 ≤ g
/-- What Copy returns. -/
def Copied (c : Rb) (w : World) (e : Ending) (w' : World) : Prop := Fr [] w w' ∧ ∃ oc or_ of_ zs, e = .returned (rbV oc or_ of_) ∧ RbOwn 0 w' oc or_ of_ zs c ∧ ∀ g, oc.ownBlock = some g ∨ or_.ownBlock = some g ∨ of_.ownBlock = some g → w.heap.size ≤ g

set_option maxRecDepth 1000000 in
set_option maxHeartbeats 1000000 in
theorem copy_c {N : Nat} (vc vr vf : Value) (ys : List ClV) (c : Rb) (w : World) (h : RbOwn N w vc vr vf ys c) (hf : RbFew c) :
    Calls Tryz.prog 28 #[.agg #[vc, vr, vf]] w (Copied c w) := by
  obtain ⟨ac, pc, rfl⟩ := (sl_of_row h.cls).val
  obtain ⟨ar, pr, rfl⟩ := (sl_of_row h.rps).val
  obtain ⟨af, pf, rfl⟩ := (sl_of_row h.fas).val
  have HA := Lib.hid (allocs_at [.cells #[.slice ac ys.length pc, .slice ar c.rps.length pr, .slice af c.fas.length pf] 30, .cells #[.slice none 0 0, .slice none 0 0, .slice none 0 0] 30, .cells #[.slice none 0 0, .slice none 0 0, .slice none 0 0] 30] w)
  have FA : Hid (Fr [] w _) := Lib.hid (allocs_fr [.cells #[.slice ac ys.length pc, .slice ar c.rps.length pr, .slice af c.fas.length pf] 30, .cells #[.slice none 0 0, .slice none 0 0, .slice none 0 0] 30, .cells #[.slice none 0 0, .slice none 0 0, .slice none 0 0] 30] w)
  have hyc : ys.length = c.cls.length := by rw [h.eq, List.length_map]
  have hyl : ys.length ≤ 100 := by have := hf.nc; omega
  have HW := Lib.hid h; have HF := Lib.hid hf; have HYC := Lib.hid hyc
  clear h hf hyc
  go_enter Tryz.func28, Tryz.ntmps28
  go_upto_block 0 with fail
  have S0 : CpS w (.slice ac ys.length pc) (.slice ar c.rps.length pr) (.slice af c.fas.length pf) (.slice none 0 0) (.slice none 0 0) (.slice none 0 0) [] ⟨[], [], []⟩ (cpW w (.slice ac ys.length pc) (.slice ar c.rps.length pr) (.slice af c.fas.length pf)) :=
    ⟨BxS.start FA.out (by omega) (HA.out 2 (by simp)), HA.out 0 (by simp), HA.out 1 (by simp), fun g hg => by (rcases hg with hg | hg | hg <;> cases hg), by simp⟩
  have HS0 := Lib.hid S0
  clear S0 HA FA
  go_cut [] (fun W => ∃ oc zs, Hid (CpS w (.slice ac ys.length pc) (.slice ar c.rps.length pr) (.slice af c.fas.length pf) oc (.slice none 0 0) (.slice none 0 0) zs ⟨c.cls, [], []⟩ W))
  case first =>
    go_wp2_with fail
    go_loopw [4] (fun i wr => ∃ (k : Nat) (oc : Value) (zs : List ClV), k ≤ ys.length ∧ i = .int .i64 k ∧ zs.length = k ∧ Hid (CpS w (.slice ac ys.length pc) (.slice ar c.rps.length pr) (.slice af c.fas.length pf) oc (.slice none 0 0) (.slice none 0 0) zs ⟨c.cls.take k, [], []⟩ wr)) (fun i _ => ys.length - (intOf i).toNat)
    case atStart => exact ⟨0, _, [], Nat.zero_le _, rfl, rfl, HS0⟩
    case round =>
      obtain ⟨k, oc, zs, hk, rfl, hzl, H⟩ := hrel
      have c10 := cell_of_blk H.out.b1 0
      by_cases hlt : k < ys.length
      · obtain ⟨ao, po, rfl⟩ := (sl_of_row H.out.bx.own.cls).val
        have HZL := Lib.hid hzl
        have hw := HW.out.same H.out.bx.fr
        obtain ⟨b, off, cap, hv, hcl⟩ := clRow_cells (sl_of_row hw.cls) k hlt
        cases hv
        obtain ⟨⟨⟨xp, xf, xt, xn, xb, xg⟩, vn, vb⟩, hx⟩ : ∃ y, ys[k] = y := ⟨_, rfl⟩
        rw [hx] at hcl
        have d0 := hcl 0 _ rfl
        have d1 := hcl 1 _ rfl
        have d2 := hcl 2 _ rfl
        have d3 := hcl 3 _ rfl
        have d4 := hcl 4 _ rfl
        have d5 := hcl 5 _ rfl
        simp only [Nat.add_zero] at d0 d1 d2 d3 d4 d5
        have hmem : ys[k] ∈ ys := List.getElem_mem hlt
        have HN := hw.needs _ hmem
        have HB := hw.bars _ hmem
        rw [hx] at HN HB
        simp only at HN HB
        obtain ⟨an, pn, rfl⟩ := HN.sl.val
        obtain ⟨ab, pb, rfl⟩ := HB.sl.val
        have hcm : ⟨xp, xf, xt, xn, xb, xg⟩ ∈ c.cls := by rw [hw.eq]; exact List.mem_map.2 ⟨_, hmem, by rw [hx]⟩
        have hnl := HF.out.needs _ hcm
        have hbl := HF.out.bars _ hcm
        simp only at hnl hbl
        have HTK : Hid (c.cls.take (k + 1) = c.cls.take k ++ [⟨xp, xf, xt, xn, xb, xg⟩]) := Lib.hid (by
          have hkc : k < c.cls.length := by rw [← HYC.out]; exact hlt
          rw [List.take_succ_eq_append_getElem hkc]
          congr 2
          have : c.cls[k] = (ys.map (·.x))[k]'(by simpa using hlt) := by congr 1; exact hw.eq
          rw [this, List.getElem_map, hx])
        have HNN := Lib.hid HN; have HBB := Lib.hid HB
        clear hcl hx hmem hcm hw HN HB hzl
        go_wp2_with (first | ((with_reducible refine wpList_of_wp (o := ⟨some 21, _, _, _, _, _⟩) rfl (fun K hK => ?_)); apply stop_in; case _other => exact trivial))
        (refine stop_in ?_ ?_; rotate_left; exact trivial)
        have A2 := alloc2' wr (.cells #[.int .i64 xp, .int .i64 xf, .int .i64 xt, .slice an xn.length pn, .slice ab xb.length pb, .int .i64 xg] 67) (.cells #[] 3)
        have FA : Fr [] wr ((wr.alloc (.cells #[.int .i64 xp, .int .i64 xf, .int .i64 xt, .slice an xn.length pn, .slice ab xb.length pb, .int .i64 xg] 67)).alloc (.cells #[] 3)) := (Fr.alloc _ _ _).trans (Fr.alloc _ _ _)
        generalize (wr.alloc (.cells #[.int .i64 xp, .int .i64 xf, .int .i64 xt, .slice an xn.length pn, .slice ab xb.length pb, .int .i64 xg] 67)).alloc (.cells #[] 3) = WA at *
        have hsw := H.out.bx.fr.size
        refine wp_append_src (.tmp 18) (.tmp 20) 48 3 _ 1 8 rfl Tryz.underlying48 infoI8 rfl (by decide) (.slice (some ⟨wr.heap.size + 1, 0, none⟩) 0 0) 0 [] rfl (row_blk0 A2.2 1) (.slice an xn.length pn) xn.length (intC xn) rfl (HNN.out.src.same FA) (by simp [intC]) (intC_one _) (by omega) (by omega) ?_
        intro ga cap1 W1 r1 f1 b1
        refine hK _ _ ?_
        clear hK K
        simp only [Nat.zero_add, List.nil_append] at r1 b1 ⊢
        have X1 := f1.keep A2.1 (by simp [Value.ownBlock])
        have F1 : Fr [] wr W1 := FA.step f1 (fun i hi => by simp [Value.ownBlock] at hi; exact .inr (by omega))
        have hs1 := blk_lt X1
        have G1 : ∀ g, (Value.slice ga xn.length cap1).ownBlock = some g → wr.heap.size < g := fun g hg => by
          have := FA.size; have hA := blk_lt A2.2
          rcases b1 with b1 | b1 <;> (rw [b1] at hg; simp [Value.ownBlock] at hg; omega)
        have t3 : W1.cell? ⟨wr.heap.size, 3, none⟩ = some (.slice an xn.length pn) := cell_of_blk X1 3
        have z3 : W1.frozen? ⟨wr.heap.size, 3, none⟩ = false := free_of_blk X1 3
        have t4 : W1.cell? ⟨wr.heap.size, 4, none⟩ = some (.slice ab xb.length pb) := cell_of_blk X1 4
        have HF1 := Lib.hid F1; have HG1 := Lib.hid G1; have HX1 := Lib.hid (heap_setCell_same (i := 3) (.slice ga xn.length cap1) X1)
        have HR1 := Lib.hid (row_fr r1 (Fr.setCell (fp := [wr.heap.size]) (p := ⟨wr.heap.size, 3, none⟩) W1 (.slice ga xn.length cap1) (by simp)) (fun g hg hm => by have := G1 g hg; simp at hm; omega))
        clear A2 FA f1 b1 X1 F1 G1 r1 d0 d1 d2 d3 d4 d5 c10
        go_wp2_with (first | ((with_reducible refine wpList_of_wp (o := ⟨some 26, _, _, _, _, _⟩) rfl (fun K hK => ?_)); apply stop_in; case _other => exact trivial))
        (refine stop_in ?_ ?_; rotate_left; exact trivial)
        have hss : (W1.setCell ⟨wr.heap.size, 3, none⟩ (.slice ga xn.length cap1)).heap.size = W1.heap.size := by simp [World.setCell]
        have E2 := heap_alloc_new (W1.setCell ⟨wr.heap.size, 3, none⟩ (.slice ga xn.length cap1)) (.cells #[] 3)
        rw [hss] at E2
        have X2 := heap_alloc_old (.cells #[] 3) HX1.out
        have F2 : Fr [] wr ((W1.setCell ⟨wr.heap.size, 3, none⟩ (.slice ga xn.length cap1)).alloc (.cells #[] 3)) := (HF1.out.step (Fr.setCell (fp := [wr.heap.size]) _ _ (by simp)) (fun i hi => .inr (by simp at hi; omega))).trans (Fr.alloc _ _ _)
        have R2 := row_fr HR1.out (Fr.alloc [] _ (.cells #[] 3)) (by simp)
        generalize (W1.setCell ⟨wr.heap.size, 3, none⟩ (.slice ga xn.length cap1)).alloc (.cells #[] 3) = WB at *
        refine wp_append_src (.tmp 23) (.tmp 25) 48 3 _ 1 8 rfl Tryz.underlying48 infoI8 rfl (by decide) (.slice (some ⟨W1.heap.size, 0, none⟩) 0 0) 0 [] rfl (row_blk0 E2 1) (.slice ab xb.length pb) xb.length (intC xb) rfl (HBB.out.src.same F2) (by simp [intC]) (intC_one _) (by omega) (by omega) ?_
        intro gb cap2 W2 r2 f2 b2
        refine hK _ _ ?_
        clear hK K
        simp only [Nat.zero_add, List.nil_append] at r2 b2 ⊢
        have hG1 := HG1.out
        have hW1 : ∀ g, (Value.slice ga xn.length cap1).ownBlock = some g → g < W1.heap.size := fun g hg => by have := ownsRow_lt HR1.out hg; omega
        have X3 := f2.keep X2 (by simp [Value.ownBlock]; omega)
        have F3 : Fr [] wr W2 := F2.step f2 (fun i hi => by simp [Value.ownBlock] at hi; exact .inr (by omega))
        have R3 := row_fr R2 f2 (fun g hg hm => by have := hW1 g hg; simp [Value.ownBlock] at hm; omega)
        have hs2 := blk_lt X3
        have G2 : ∀ g, (Value.slice gb xb.length cap2).ownBlock = some g → wr.heap.size < g := fun g hg => by
          have := F2.size; have hA := blk_lt E2
          rcases b2 with b2 | b2 <;> (rw [b2] at hg; simp [Value.ownBlock] at hg; omega)
        have t0 : W2.cell? ⟨wr.heap.size, 0, none⟩ = some (.int .i64 xp) := cell_of_blk X3 0
        have t1 : W2.cell? ⟨wr.heap.size, 1, none⟩ = some (.int .i64 xf) := cell_of_blk X3 1
        have t2 : W2.cell? ⟨wr.heap.size, 2, none⟩ = some (.int .i64 xt) := cell_of_blk X3 2
        have t3' : W2.cell? ⟨wr.heap.size, 3, none⟩ = some (.slice ga xn.length cap1) := cell_of_blk X3 3
        have t4' : W2.cell? ⟨wr.heap.size, 4, none⟩ = some (.slice ab xb.length pb) := cell_of_blk X3 4
        have t5 : W2.cell? ⟨wr.heap.size, 5, none⟩ = some (.int .i64 xg) := cell_of_blk X3 5
        have z4 : W2.frozen? ⟨wr.heap.size, 4, none⟩ = false := free_of_blk X3 4
        have CB := H.out.bx.same F3
        have hbn : w.heap.size + 1 + 1 < wr.heap.size := blk_lt H.out.bx.box
        have u0 : W2.cell? ⟨w.heap.size + 1 + 1, 0, none⟩ = some (.slice ao zs.length po) := cell_of_blk CB.box 0
        have hne : w.heap.size + 1 + 1 ≠ wr.heap.size := by omega
        have hFs : Fr [wr.heap.size] W2 (W2.setCell ⟨wr.heap.size, 4, none⟩ (.slice gb xb.length cap2)) := Fr.setCell _ _ (by simp)
        have HF3 : Hid (Fr [] wr (W2.setCell ⟨wr.heap.size, 4, none⟩ (.slice gb xb.length cap2))) := Lib.hid (F3.step hFs (fun i hi => .inr (by simp at hi; omega)))
        have HRa := Lib.hid (row_fr R3 hFs (fun g hg hm => by have := hG1 g hg; simp at hm; omega))
        have HRb := Lib.hid (row_fr r2 hFs (fun g hg hm => by have := G2 g hg; simp at hm; omega))
        have HG2 := Lib.hid G2
        have hsz2 : (W2.setCell ⟨wr.heap.size, 4, none⟩ (.slice gb xb.length cap2)).heap.size = W2.heap.size := by simp [World.setCell]
        have HSZ := Lib.hid hsz2
        clear hsz2 hFs CB G2 R3 F3 f2 b2 r2 hG1 hW1 F2 X2 E2 hss R2 X3 HX1 HR1 HF1 t3 t4 z3
        go_wp2_with (first | ((with_reducible refine wpList_of_wp (o := ⟨some 32, _, _, _, _, _⟩) rfl (fun K hK => ?_)); apply stop_in; case _other => exact trivial))
        (refine stop_in ?_ ?_; rotate_left; exact trivial)
        have F4 : Fr [] wr ((W2.setCell ⟨wr.heap.size, 4, none⟩ (.slice gb xb.length cap2)).alloc (.cells #[.int .i64 xp, .int .i64 xf, .int .i64 xt, .slice ga xn.length cap1, .slice gb xb.length cap2, .int .i64 xg] 67)) := HF3.out.trans (Fr.alloc _ _ _)
        have Ra := row_fr HRa.out (Fr.alloc [] _ (.cells #[.int .i64 xp, .int .i64 xf, .int .i64 xt, .slice ga xn.length cap1, .slice gb xb.length cap2, .int .i64 xg] 67)) (by simp)
        have Rb_ := row_fr HRb.out (Fr.alloc [] _ (.cells #[.int .i64 xp, .int .i64 xf, .int .i64 xt, .slice ga xn.length cap1, .slice gb xb.length cap2, .int .i64 xg] 67)) (by simp)
        have HSr := srcAt_new (W2.setCell ⟨wr.heap.size, 4, none⟩ (.slice gb xb.length cap2)) #[.int .i64 xp, .int .i64 xf, .int .i64 xt, .slice ga xn.length cap1, .slice gb xb.length cap2, .int .i64 xg] 67
        rw [HSZ.out] at HSr
        generalize (W2.setCell ⟨wr.heap.size, 4, none⟩ (.slice gb xb.length cap2)).alloc (.cells #[.int .i64 xp, .int .i64 xf, .int .i64 xt, .slice ga xn.length cap1, .slice gb xb.length cap2, .int .i64 xg] 67) = WC at *
        have B4 := H.out.bx.same F4
        have hzz := HZL.out
        refine wp_append_src (.tmp 29) (.tmp 31) 26 67 _ 6 80 rfl Tryz.underlying26 infoCl rfl (by decide) (.slice ao zs.length po) zs.length _ rfl B4.own.cls (.slice (some ⟨W2.heap.size, 0, none⟩) 1 1) 1 [.int .i64 xp, .int .i64 xf, .int .i64 xt, .slice ga xn.length cap1, .slice gb xb.length cap2, .int .i64 xg] rfl HSr rfl (by simp [Value.oneCell']) (by omega) (by omega) ?_
        intro gc cap3 W5 r5 f5 b5
        refine hK _ _ ?_
        clear hK K
        have P5 := B4.putCl (y := ⟨⟨xp, xf, xt, xn, xb, xg⟩, .slice ga xn.length cap1, .slice gb xb.length cap2⟩) (intsR_of_row Ra) (intsR_of_row Rb_) (fun g hg => by
          have hlt' : g < WC.heap.size := by rcases hg with hg | hg; exact ownsRow_lt Ra hg; exact ownsRow_lt Rb_ hg
          have hge : wr.heap.size < g := by rcases hg with hg | hg; exact HG1.out g hg; exact HG2.out g hg
          exact ⟨hlt', by omega, fun e => by have := ownsRow_lt H.out.bx.own.cls e; omega, (by simp [Value.ownBlock]), (by simp [Value.ownBlock])⟩) r5 rfl rfl f5 b5
        have KB := H.out
        have hbx5 : w.heap.size + 1 + 1 ∉ (Value.slice ao zs.length po).ownBlock.toList := fun hm => by have := KB.fresh _ (.inl (by simpa using hm)); omega
        have X5 := f5.keep B4.box hbx5
        have FS5 : Fr [w.heap.size + 1 + 1] W5 (W5.setCell ⟨w.heap.size + 1 + 1, 0, none⟩ (.slice gc (zs.length + 1) cap3)) := Fr.setCell _ _ (by simp)
        have HM : Hid (CpS w (.slice (some ⟨b, off, none⟩) ys.length pc) (.slice ar c.rps.length pr) (.slice af c.fas.length pf) (.slice gc (zs.length + 1) cap3) (.slice none 0 0) (.slice none 0 0) (zs ++ [⟨⟨xp, xf, xt, xn, xb, xg⟩, .slice ga xn.length cap1, .slice gb xb.length cap2⟩]) ⟨c.cls.take (k + 1), [], []⟩ (W5.setCell ⟨w.heap.size + 1 + 1, 0, none⟩ (.slice gc (zs.length + 1) cap3))) := Lib.hid (by
          refine ⟨by rw [HTK.out]; exact P5, ?_, ?_, fun g hg => ?_, fun y hy g hg => ?_⟩
          · exact FS5.keep (f5.keep (F4.keep KB.b1 (by simp)) (fun hm => by have := KB.fresh _ (.inl (by simpa using hm)); omega)) (by simp; omega)
          · exact FS5.keep (f5.keep (F4.keep KB.b2 (by simp)) (fun hm => by have := KB.fresh _ (.inl (by simpa using hm)); omega)) (by simp)
          · rcases hg with hg | hg | hg
            · exact new_ge b5 (by have := F4.size; omega) (fun g hg => KB.fresh g (.inl hg)) g hg
            · cases hg
            · cases hg
          · rcases List.mem_append.1 hy with hy | hy
            · exact KB.tfresh y hy g hg
            · simp only [List.mem_singleton] at hy
              subst hy
              have hge : wr.heap.size < g := by rcases hg with hg | hg; exact HG1.out g hg; exact HG2.out g hg
              omega)
        have v0 : W5.cell? ⟨w.heap.size + 1 + 1, 0, none⟩ = some (.slice ao zs.length po) := cell_of_blk X5 0
        have vz : W5.frozen? ⟨w.heap.size + 1 + 1, 0, none⟩ = false := free_of_blk X5 0
        clear hzz P5 KB hbx5 X5 FS5 r5 f5 b5 B4 HSr Ra Rb_ F4 t0 t1 t2 t3' t4' t5 z4 u0
        go_wp2_with fail
        go_roundw
        case rel =>
          refine ⟨k + 1, _, _, by omega, by go_num, ?_, HM⟩
          rw [List.length_append, HZL.out]; rfl
        case measure => simp [intOf]; omega
      · obtain rfl : k = ys.length := by omega
        go_wp2_with fail
        go_meet
        case rel => exact ⟨oc, zs, by rw [List.take_of_length_le (by rw [← HYC.out]; exact Nat.le_refl _)] at H; exact H⟩
  case rest =>
    obtain ⟨oc, zs, H⟩ := hcut
    obtain ⟨ao, po, rfl⟩ := (sl_of_row H.out.bx.own.cls).val
    have hrl := HF.out.nr; have hfl := HF.out.nf
    have c1 := cell_of_blk H.out.b1 1
    have hb1 := blk_lt H.out.b1
    go_wp2_with (first | ((with_reducible refine wpList_of_wp (o := ⟨some 37, _, _, _, _, _⟩) rfl (fun K hK => ?_)); apply stop_in; case _other => exact trivial))
    (refine stop_in ?_ ?_; rotate_left; exact trivial)
    have E1 := heap_alloc_new wc (.cells #[] 60)
    have F1 := Fr.alloc [] wc (.cells #[] 60)
    generalize wc.alloc (.cells #[] 60) = WA at *
    have B1 := H.out.bx.same F1
    have W1' := (HW.out.same H.out.bx.fr).same F1
    refine wp_append_src (.tmp 34) (.tmp 36) 27 60 _ 3 24 rfl Tryz.underlying27 infoRp rfl (by decide) (.slice (some ⟨wc.heap.size, 0, none⟩) 0 0) 0 [] rfl (row_blk0 E1 3) (.slice ar c.rps.length pr) c.rps.length _ rfl (srcAt_of_row W1'.rps) (rpC_len _) (rpC_one _) (by omega) (by omega) ?_
    intro g1 cap1 W1 r1 f1 b1
    refine hK _ _ ?_
    clear hK K
    simp only [Nat.zero_add, List.nil_append] at r1 b1 ⊢
    have hsw := H.out.bx.fr.size
    have hbl := blk_lt H.out.bx.box
    have hF1 : Fr [] wc W1 := F1.step f1 (fun i hi => .inr (by simp [Value.ownBlock] at hi; omega))
    have N1 : ∀ g, (Value.slice g1 c.rps.length cap1).ownBlock = some g → wc.heap.size ≤ g := fun g hg => by
      have := F1.size
      rcases b1 with b1 | b1 <;> (rw [b1] at hg; simp [Value.ownBlock] at hg; omega)
    have P1 := H.out.bx.putRp (rs := c.rps) (v' := .slice g1 c.rps.length cap1) (W1 := W1) r1 rfl rfl (hF1.mono (by simp)) (fun g hg => .inr (N1 g hg))
    have FS1 : Fr [w.heap.size + 1 + 1] W1 (W1.setCell ⟨w.heap.size + 1 + 1, 1, none⟩ (.slice g1 c.rps.length cap1)) := Fr.setCell _ _ (by simp)
    have Q1 := FS1.keep (hF1.keep H.out.b1 (by simp)) (by simp; omega)
    have Q2 := FS1.keep (hF1.keep H.out.b2 (by simp)) (by simp)
    have hs1 : (W1.setCell ⟨w.heap.size + 1 + 1, 1, none⟩ (.slice g1 c.rps.length cap1)).heap.size = W1.heap.size := by simp [World.setCell]
    have X1 := hF1.keep H.out.bx.box (by simp)
    have v1 : W1.cell? ⟨w.heap.size + 1 + 1, 1, none⟩ = some (.slice none 0 0) := cell_of_blk X1 1
    have z1 : W1.frozen? ⟨w.heap.size + 1 + 1, 1, none⟩ = false := free_of_blk X1 1
    have y2 : W1.cell? ⟨w.heap.size, 2, none⟩ = some (.slice af c.fas.length pf) := cell_of_blk (hF1.keep H.out.b1 (by simp)) 2
    have hz1 : w.heap.size < W1.heap.size := by have := hF1.size; omega
    have HP1 := Lib.hid P1; have HQ1 := Lib.hid Q1; have HQ2 := Lib.hid Q2; have HS1 := Lib.hid hs1
    have HFR := Lib.hid (fun g (hg : (Value.slice ao zs.length po).ownBlock = some g ∨ (Value.slice g1 c.rps.length cap1).ownBlock = some g) => (show w.heap.size + 3 ≤ g from by
      rcases hg with hg | hg
      · exact H.out.fresh g (.inl hg)
      · have := N1 g hg; omega))
    clear E1 F1 B1 W1' r1 f1 b1 hF1 N1 P1 FS1 Q1 Q2 hs1 X1 c1
    go_wp2_with (first | ((with_reducible refine wpList_of_wp (o := ⟨some 42, _, _, _, _, _⟩) rfl (fun K hK => ?_)); apply stop_in; case _other => exact trivial))
    (refine stop_in ?_ ?_; rotate_left; exact trivial)
    have E1 := heap_alloc_new (W1.setCell ⟨w.heap.size + 1 + 1, 1, none⟩ (.slice g1 c.rps.length cap1)) (.cells #[] 74)
    rw [HS1.out] at E1
    have P1 := HP1.out; have Q1 := HQ1.out; have Q2 := HQ2.out; have hs1 := HS1.out
    clear HP1 HQ1 HQ2 HS1
    generalize W1.setCell ⟨w.heap.size + 1 + 1, 1, none⟩ (.slice g1 c.rps.length cap1) = WB at *
    have F1 := Fr.alloc [] WB (.cells #[] 74)
    generalize WB.alloc (.cells #[] 74) = WA at *
    have W1' := (HW.out.same P1.fr).same F1
    refine wp_append_src (.tmp 39) (.tmp 41) 28 74 _ 6 48 rfl Tryz.underlying28 infoFa rfl (by decide) (.slice (some ⟨W1.heap.size, 0, none⟩) 0 0) 0 [] rfl (row_blk0 E1 6) (.slice af c.fas.length pf) c.fas.length _ rfl (srcAt_of_row W1'.fas) (faC_len _) (faC_one _) (by omega) (by omega) ?_
    intro g2 cap2 W2 r2 f2 b2
    refine hK _ _ ?_
    clear hK K
    simp only [Nat.zero_add, List.nil_append] at r2 b2 ⊢
    have hF2 : Fr [] WB W2 := F1.step f2 (fun i hi => .inr (by simp [Value.ownBlock] at hi; omega))
    have N2 : ∀ g, (Value.slice g2 c.fas.length cap2).ownBlock = some g → WB.heap.size ≤ g := fun g hg => by
      have := F1.size
      rcases b2 with b2 | b2 <;> (rw [b2] at hg; simp [Value.ownBlock] at hg; omega)
    have P2 := P1.putFa (rs := c.fas) (v' := .slice g2 c.fas.length cap2) (W1 := W2) r2 rfl rfl (hF2.mono (by simp)) (fun g hg => .inr (N2 g hg))
    have FS2 : Fr [w.heap.size + 1 + 1] W2 (W2.setCell ⟨w.heap.size + 1 + 1, 2, none⟩ (.slice g2 c.fas.length cap2)) := Fr.setCell _ _ (by simp)
    have R2 := FS2.keep (hF2.keep Q2 (by simp)) (by simp)
    have X2 := hF2.keep P1.box (by simp)
    have v2 : W2.cell? ⟨w.heap.size + 1 + 1, 2, none⟩ = some (.slice none 0 0) := cell_of_blk X2 2
    have z2 : W2.frozen? ⟨w.heap.size + 1 + 1, 2, none⟩ = false := free_of_blk X2 2
    have v0 : W2.cell? ⟨w.heap.size + 1 + 1, 0, none⟩ = some (.slice ao zs.length po) := cell_of_blk X2 0
    have v1' : W2.cell? ⟨w.heap.size + 1 + 1, 1, none⟩ = some (.slice g1 c.rps.length cap1) := cell_of_blk X2 1
    have rr := hF2.keep Q2 (by simp)
    have q0 : W2.cell? ⟨w.heap.size + 1, 0, none⟩ = some (.slice none 0 0) := cell_of_blk rr 0
    have q1 : W2.cell? ⟨w.heap.size + 1, 1, none⟩ = some (.slice none 0 0) := cell_of_blk rr 1
    have q2 : W2.cell? ⟨w.heap.size + 1, 2, none⟩ = some (.slice none 0 0) := cell_of_blk rr 2
    have e0 : W2.frozen? ⟨w.heap.size + 1, 0, none⟩ = false := free_of_blk rr 0
    have e1 : W2.frozen? ⟨w.heap.size + 1, 1, none⟩ = false := free_of_blk rr 1
    have e2 : W2.frozen? ⟨w.heap.size + 1, 2, none⟩ = false := free_of_blk rr 2
    have hn12 : w.heap.size + 1 + 1 ≠ w.heap.size + 1 := by omega
    have hn21 : w.heap.size + 1 ≠ w.heap.size + 1 + 1 := by omega
    have HP2 := Lib.hid P2; have HR2 := Lib.hid R2
    have HFR2 := Lib.hid (fun g (hg : (Value.slice g2 c.fas.length cap2).ownBlock = some g) => (show w.heap.size + 3 ≤ g from by have := N2 g hg; have := P1.fr.size; have := blk_lt P1.box; omega))
    clear E1 F1 W1' r2 f2 b2 hF2 N2 P2 FS2 R2 X2 P1 Q1 Q2 hs1 rr y2 v1 z1
    go_wp2_with fail
    have HT := Lib.hid H.out.tfresh
    clear v2 z2 v0 v1' q0 q1 q2 e0 e1 e2
    have PP := HP2.out; have RR := HR2.out
    clear HP2 HR2
    generalize W2.setCell ⟨w.heap.size + 1 + 1, 2, none⟩ (.slice g2 c.fas.length cap2) = WZ at *
    have B0 := heap_setCell_same (i := 0) (.slice ao zs.length po) RR
    have B1 := heap_setCell_same (i := 1) (.slice g1 c.rps.length cap1) B0
    have B2 := heap_setCell_same (i := 2) (.slice g2 c.fas.length cap2) B1
    have hF : Fr [w.heap.size + 1] WZ (((WZ.setCell ⟨w.heap.size + 1, 0, none⟩ (.slice ao zs.length po)).setCell ⟨w.heap.size + 1, 1, none⟩ (.slice g1 c.rps.length cap1)).setCell ⟨w.heap.size + 1, 2, none⟩ (.slice g2 c.fas.length cap2)) := ((Fr.setCell _ _ (by simp)).trans (Fr.setCell _ _ (by simp))).trans (Fr.setCell _ _ (by simp))
    clear B0 B1
    generalize (((WZ.setCell ⟨w.heap.size + 1, 0, none⟩ (.slice ao zs.length po)).setCell ⟨w.heap.size + 1, 1, none⟩ (.slice g1 c.rps.length cap1)).setCell ⟨w.heap.size + 1, 2, none⟩ (.slice g2 c.fas.length cap2)) = W3 at *
    have k0 : W3.cell? ⟨w.heap.size + 1, 0, none⟩ = some (.slice ao zs.length po) := cell_of_blk B2 0
    have k1 : W3.cell? ⟨w.heap.size + 1, 1, none⟩ = some (.slice g1 c.rps.length cap1) := cell_of_blk B2 1
    have k2 : W3.cell? ⟨w.heap.size + 1, 2, none⟩ = some (.slice g2 c.fas.length cap2) := cell_of_blk B2 2
    refine bodyPost_ret (by simp [results, Tryz.results28, go_sem, k0, k1, k2]; try rfl) rfl ⟨PP.fr.step hF (fun i hi => .inr (by simp at hi; omega)), _, _, _, zs, rfl, PP.own.frH hF (fun g hg hm => ?_), fun g hg => ?_⟩
    · simp only [List.mem_singleton] at hm
      rcases hg with hg | hg | hg | ⟨y, hy, hg⟩
      · have := HFR.out g (.inl hg); omega
      · have := HFR.out g (.inr hg); omega
      · have := HFR2.out g hg; omega
      · have := HT.out y hy g hg; omega
    · rcases hg with hg | hg | hg
      · have := HFR.out g (.inl hg); omega
      · have := HFR.out g (.inr hg); omega
      · have := HFR2.out g hg; omega

end Go.Proofs.YtfidioedjmjddaaGreat

/-
  dialtoneref08: BentProof.
-/
namespace Go.Proofs.YtfidioedjmjddaaGreat
open Go.RowKit Go.Lib

/-- What BentProof returns: some findings. -/
def BentP (w : World) (n : Nat) (e : Ending) (w' : World) : Prop := Fr [] w w' ∧ ∃ v' l', e = .returned v' ∧ FdAt w' v' l' ∧ l'.length ≤ n + 1

/-- The same, and they lie in a block of their own. -/
def BentQ (w : World) (n : Nat) (e : Ending) (w' : World) : Prop := Fr [] w w' ∧ ∃ v' l', e = .returned v' ∧ FdAt w' v' l' ∧ l'.length ≤ n + 1 ∧ ∀ g, v'.ownBlock = some g → w.heap.size ≤ g

theorem bentP_row {w W : World} {n : Nat} {v : Value} {l' : List Fd} (hF : Fr [] w W) (hr : FdRow W v l') (hl : l'.length ≤ n + 1) (hn : ∀ g, v.ownBlock = some g → w.heap.size ≤ g) : BentQ w n (.returned v) W := ⟨hF, v, l', rfl, fdAt_of_row hr, hl, hn⟩
theorem fdRow_set' {w : World} {g cap n : Nat} {l : List Fd} (h : FdRow w (.slice (some ⟨g, 0, none⟩) n cap) l) (hn : n = l.length) (k j : Nat) (x : Fd) (u : Value) (hk : k < l.length) (hj : j < 4) (hx : (fdC l[k]).set j u = fdC x) : FdRow (w.setCell ⟨g, k * 4 + j, none⟩ u) (.slice (some ⟨g, 0, none⟩) n cap) (l.set k x) := by
  subst hn
  exact fdRow_set h k j x u hk hj hx
theorem fdRow_put {w : World} {g cap : Nat} {l : List Fd} (h : FdRow w (.slice (some ⟨g, 0, none⟩) l.length cap) l) (k : Nat) (x : Fd) (hk : k < l.length) :
    FdRow ((((w.setCell ⟨g, k * 4, none⟩ (.int .i64 x.says)).setCell ⟨g, k * 4 + 1, none⟩ (.bool x.holds)).setCell ⟨g, k * 4 + 2, none⟩ (.int .i64 x.fact)).setCell ⟨g, k * 4 + 3, none⟩ (.int .i64 x.cl)) (.slice (some ⟨g, 0, none⟩) l.length cap) (l.set k x) := by
  have h0 := fdRow_set' h rfl k 0 ⟨x.says, l[k].holds, l[k].fact, l[k].cl⟩ (.int .i64 x.says) hk (by omega) rfl
  have h1 := fdRow_set' h0 (by simp) k 1 ⟨x.says, x.holds, l[k].fact, l[k].cl⟩ (.bool x.holds) (by simpa using hk) (by omega) (by rw [List.getElem_set_self]; rfl)
  have h2 := fdRow_set' h1 (by simp) k 2 ⟨x.says, x.holds, x.fact, l[k].cl⟩ (.int .i64 x.fact) (by simpa using hk) (by omega) (by rw [List.getElem_set_self]; rfl)
  have h3 := fdRow_set' h2 (by simp) k 3 x (.int .i64 x.cl) (by simpa using hk) (by omega) (by rw [List.getElem_set_self]; rfl)
  simp only [List.set_set, Nat.add_zero] at h3
  exact h3

set_option maxRecDepth 1000000 in
set_option maxHeartbeats 1000000 in
theorem bent_own_c (v : Value) (l : List Fd) (how n at_ : Int) (w : World) (h : SrcAt w v l.length (l.flatMap fdC)) (hl : l.length ≤ 1000) (i1 : I64 how) (i3 : I64 at_) :
    Calls Tryz.prog 18 #[v, .int .i64 how, .int .i64 n, .int .i64 at_] w (BentQ w l.length) := by
  have HS := Lib.hid h
  have HO := Lib.hid (fdC_one l)
  have HL := Lib.hid (fdC_len l)
  have CH := Lib.hid fun W => pick8_c how 6 W i1 (by omega) (by omega)
  have bh := pickI_bound how 6 (by omega)
  generalize pickI how 6 = hw at *
  clear h
  have RE := Lib.hid (row_empty w 62 4)
  have FA := Lib.hid (Fr.alloc [] w (.cells #[] 62))
  by_cases h0 : l.length = 0
  · have HZ := Lib.hid h0
    have hz : ((l.length : Int) == 0) = true := by simp [h0]
    clear h0
    go_enter Tryz.func18, Tryz.ntmps18
    go_wp2_with (first | ((with_reducible refine wpList_of_wp (o := ⟨some 13, _, _, _, _, _⟩) rfl (fun K hK => ?_)); go_must (refine wp_append_src (.tmp 11) (.tmp 12) 34 62 _ 4 32 rfl Tryz.underlying34 infoFd rfl (by decide) (.slice (some ⟨w.heap.size, 0, none⟩) 0 0) 0 [] rfl RE.out _ l.length _ rfl (HS.out.same FA.out) HL.out HO.out (by omega) (by omega) ?_; intro ga cap1 W1 r1 f1 b1; simp only [Nat.zero_add, List.nil_append] at r1 ⊢; have R1 := Lib.hid r1; have F1 : Hid (Fr [] w W1) := Lib.hid (FA.out.step f1 (fun i hi => .inr (by simp [Value.ownBlock] at hi; omega))); have B1 : Hid (∀ g, (Value.slice ga l.length cap1).ownBlock = some g → w.heap.size ≤ g) := Lib.hid (fun g hg => by simp only [Nat.zero_add] at b1; rcases b1 with b1 | b1 <;> (rw [b1] at hg; simp [Value.ownBlock] at hg; omega)); refine hK _ _ ?_; clear hK r1 f1 b1)) | ((with_reducible refine wpList_of_wp (o := ⟨some 21, _, _, _, _, _⟩) rfl (fun K hK => ?_)); go_must (refine wp_append_src (.tmp 17) (.tmp 20) 34 62 _ 4 32 rfl Tryz.underlying34 infoFd rfl (by decide) (.slice ga l.length cap1) l.length _ rfl (row_fr R1.out (Fr.alloc [] _ _) (by simp)) (.slice (some ⟨W1.heap.size, 0, none⟩) 1 1) 1 _ rfl (srcAt_new W1 #[.int .i64 n, .bool false, .int .i64 (-1), .int .i64 (-1)] 62) rfl (by simp [Value.oneCell']) (by omega) (by omega) ?_; intro gb cap2 W2 r2 f2 b2; have R2 := Lib.hid r2; have F2 : Hid (Fr [] w W2) := Lib.hid ((F1.out.trans (Fr.alloc _ _ _)).step f2 (fun i hi => .inr (B1.out i (by simpa using hi)))); have B2 : Hid (∀ g, (Value.slice gb (l.length + 1) cap2).ownBlock = some g → w.heap.size ≤ g) := Lib.hid (fun g hg => by rcases b2 with b2 | b2 <;> rw [b2] at hg; exact B1.out g hg; have hs := F1.out.size; simp at hg; omega); refine hK _ _ ?_; clear hK r2 f2 b2)))
    go_ret
    refine ⟨F2.out, _, l ++ [⟨n, false, -1, -1⟩], rfl, fdAt_of_row ?_, by simp, B2.out⟩
    have := R2.out
    simpa [FdRow, fdC] using this
  · have hz : ((l.length : Int) == 0) = false := beq_eq_false_iff_ne.2 (by omega)
    have CA := Lib.hid fun W => pick8_c at_ l.length W i3 (by omega) (by omega)
    have ba := pickI_bound at_ l.length (by omega)
    generalize pickI at_ l.length = kk at *
    obtain ⟨k, rfl⟩ := Int.eq_ofNat_of_zero_le ba.1
    have hk : k < l.length := by omega
    go_enter Tryz.func18, Tryz.ntmps18
    go_wp2_with (first | ((with_reducible refine wpList_of_wp (o := ⟨some 13, _, _, _, _, _⟩) rfl (fun K hK => ?_)); go_must (refine wp_append_src (.tmp 11) (.tmp 12) 34 62 _ 4 32 rfl Tryz.underlying34 infoFd rfl (by decide) (.slice (some ⟨w.heap.size, 0, none⟩) 0 0) 0 [] rfl RE.out _ l.length _ rfl (HS.out.same FA.out) HL.out HO.out (by omega) (by omega) ?_; intro ga cap1 W1 r1 f1 b1; simp only [Nat.zero_add, List.nil_append] at r1 ⊢; have R1 := Lib.hid r1; have F1 : Hid (Fr [] w W1) := Lib.hid (FA.out.step f1 (fun i hi => .inr (by simp [Value.ownBlock] at hi; omega))); have B1 : Hid (∀ g, (Value.slice ga l.length cap1).ownBlock = some g → w.heap.size ≤ g) := Lib.hid (fun g hg => by simp only [Nat.zero_add] at b1; rcases b1 with b1 | b1 <;> (rw [b1] at hg; simp [Value.ownBlock] at hg; omega)); refine hK _ _ ?_; clear hK r1 f1 b1)))
    refine (CA.out _).mono ?_
    rintro e w1 ⟨rfl, rfl⟩
    obtain ⟨g, cap, hv, _⟩ := R1.out.form (by omega)
    cases hv
    go_wp2_with fail
    refine (CH.out _).mono ?_
    rintro e w1 ⟨rfl, rfl⟩
    obtain ⟨c0, c1, c2, c3⟩ := fdRow_cells R1.out k hk
    have fz := fun j => fdRow_free R1.out (k * 4 + j)
    have z0 : W1.frozen? ⟨g, k * 4, none⟩ = false := fz 0
    have z1 := fz 1; have z2 := fz 2; have z3 := fz 3
    have hg := B1.out g rfl
    clear fz hz CA CH ba i1 i3 FA RE HS h0
    have hcase : hw = 0 ∨ hw = 1 ∨ hw = 2 ∨ hw = 3 ∨ hw = 4 ∨ hw = 5 := by omega
    clear bh
    rcases hcase with rfl | rfl | rfl | rfl | rfl | rfl
    · go_wp2_with fail
      go_ret
      have hr := fdRow_set' R1.out rfl k 0 ⟨n, l[k].holds, l[k].fact, l[k].cl⟩ (.int .i64 n) hk (by omega) rfl
      exact bentP_row (F1.out.step (Fr.setCell (fp := [g]) _ _ (by simp)) (fun i hi => by simp at hi; exact .inr (by omega))) hr (by simp) (fun b hb => by cases hb; exact hg)
    · go_wp2_with fail
      go_ret
      have hr := fdRow_set' R1.out rfl k 1 ⟨l[k].says, !l[k].holds, l[k].fact, l[k].cl⟩ (.bool (!l[k].holds)) hk (by omega) rfl
      exact bentP_row (F1.out.step (Fr.setCell (fp := [g]) _ _ (by simp)) (fun i hi => by simp at hi; exact .inr (by omega))) hr (by simp) (fun b hb => by cases hb; exact hg)
    · go_wp2_with fail
      go_ret
      have hr := fdRow_set' R1.out rfl k 2 ⟨l[k].says, l[k].holds, n, l[k].cl⟩ (.int .i64 n) hk (by omega) rfl
      exact bentP_row (F1.out.step (Fr.setCell (fp := [g]) _ _ (by simp)) (fun i hi => by simp at hi; exact .inr (by omega))) hr (by simp) (fun b hb => by cases hb; exact hg)
    · go_wp2_with fail
      go_ret
      have hr := fdRow_set' R1.out rfl k 3 ⟨l[k].says, l[k].holds, l[k].fact, n⟩ (.int .i64 n) hk (by omega) rfl
      exact bentP_row (F1.out.step (Fr.setCell (fp := [g]) _ _ (by simp)) (fun i hi => by simp at hi; exact .inr (by omega))) hr (by simp) (fun b hb => by cases hb; exact hg)
    · obtain ⟨cur, hgb, hlc, hcm, hcs, hct⟩ : ∃ cur, W1.heap[g]? = some (.cells cur 62 (0, 0)) ∧ l.length ≤ cap1 ∧ cap1 ≤ 9223372036854775807 ∧ cur.size = cap1 * 4 ∧ cur.toList.take (l.length * 4) = l.flatMap fdC := by
        rcases R1.out.2 with ⟨h0, _⟩ | ⟨g', cap', cur, hv, _, hg', r1, r2, r3, r4⟩
        · cases h0
        · cases hv; exact ⟨cur, hg', r1, r2, r3, r4⟩
      have hkc : k ≤ cap1 := by omega
      have hk1 : k + 1 ≤ l.length := hk
      have hki : (0 : Int) ≤ (k : Int) + 1 := by omega
      have hki2 : (k : Int) + 1 ≤ (l.length : Int) := by omega
      obtain ⟨off, hif, hoff⟩ : ∃ off, (if cap1 = k + 1 then (some ⟨g, 0, none⟩ : Option Addr) else some ⟨g, (k + 1) * 4, none⟩) = some ⟨g, off, none⟩ ∧ (off = (k + 1) * 4 ∨ l.length - (k + 1) = 0) := by
        split
        · exact ⟨0, rfl, .inr (by omega)⟩
        · exact ⟨_, rfl, .inl rfl⟩
      have HT := Lib.hid (srcAt_part R1.out (k + 1) (l.length - (k + 1)) (cap1 - (k + 1)) off (by omega) hoff)
      rw [fd_tail] at HT
      have HGB := Lib.hid hgb; have HCS := Lib.hid hcs; have HCT := Lib.hid hct
      have HE := Lib.hid (erase_flat l k hk)
      have HEL : Hid ((l.eraseIdx k).length = k + (l.length - (k + 1))) := Lib.hid (by rw [List.length_eraseIdx, if_pos hk]; omega)
      clear hoff hgb hcs hct c0 c1 c2 c3 z0 z1 z2 z3
      go_wp2_with fail
      have hw1 : IntKind.i64.wrap (↑k + 1) = ↑k + 1 := IntWalk.i64_in _ (by omega)
      have hw2 : ((k : Int) + 1).toNat = k + 1 := by omega
      refine reg_mix (fun _ => True) [0, 1, 2, 3, 4, 5, 6, 7, 8, 9] (by kernel_rfl) (by kernel_rfl) (by kernel_rfl) rfl trivial ?_
      iterate 8 (refine mix_take1 (v := ?_) rfl rfl rfl rfl (fun w _ => ?_) ?_; rotate_left; (focus (go_simp; rfl)); simp only [List.setIfInBounds_toArray, List.set_cons_succ, List.set_cons_zero])
      clear hw1 hw2 hif hki hki2
      have FD : Fr [] w W1.drew := F1.out.trans (Fr.drew _ _)
      have hT : cur.toList.take (k * 4) = (l.take k).flatMap fdC := by rw [flat_take, ← HCT.out, List.take_take, Nat.min_eq_left (by omega)]
      by_cases hlast : k + 1 = l.length
      · have hm0 : l.length - (k + 1) = 0 := by omega
        refine mix_do (o := ⟨some 81, _, _, _, _, _⟩) rfl rfl rfl (fun K hK => ?_)
        refine wp_append_room (.tmp 76) (.tmp 80) 34 62 _ 4 32 rfl Tryz.underlying34 infoFd g k k cur rfl HGB.out ⟨g, off, none⟩ (l.length - (k + 1)) (cap1 - (k + 1)) [] rfl (by simp) (by simp [hm0]) (by simp) (by omega) (by simp only [List.length_nil, HCS.out]; omega) ?_
        intro ds hds htk
        refine hK _ _ trivial ?_
        clear hK K
        try simp only [Act.put, List.setIfInBounds_toArray, List.set_cons_succ, List.set_cons_zero]
        refine mix_take1 (v := ?_) rfl rfl rfl rfl (fun w _ => ?_) ?_
        rotate_left
        (focus (go_simp; rfl))
        simp only [List.setIfInBounds_toArray, List.set_cons_succ, List.set_cons_zero]
        refine mix_end ?_
        go_wp2_with fail
        go_ret
        have hb : (W1.drew.setRow g ds).heap[g]? = some (.cells ds 62 (0, 0)) := setRow_heap _ _ _ _ _ _ HGB.out
        have htl : (l.take k).flatMap fdC = ds.toList.take (k * 4) := by
          rw [hm0, Nat.add_zero, List.append_nil] at htk
          rw [htk, hT]
        have hlk : (l.take k).length = k := by simp; omega
        refine ⟨FD.step (Fr.setRow (fp := [g]) _ _ (by simp)) (fun i hi => by simp at hi; exact .inr (by omega)), _, l.take k, rfl, ⟨?_, ?_⟩, by simp; omega, fun b hb => by cases hb; exact hg⟩
        · rw [hlk, htl]
          refine ⟨_, k, by simp [hm0], Nat.le_refl _, by omega, fun _ => ⟨g, 0, rfl, fun j u hu => ?_⟩⟩
          rw [Nat.zero_add]
          have hj : j < k * 4 := by have := (List.getElem?_eq_some_iff.1 hu).1; simp at this; omega
          rw [List.getElem?_take_of_lt hj, Array.getElem?_toList] at hu
          exact (cell_of_blk hb j).trans hu
        · rw [hlk, htl]
          refine ⟨.inr ⟨⟨g, 0, none⟩, k, by simp [hm0], fun j u hu => ?_⟩⟩
          rw [addr_add, Nat.zero_add]
          have hj : j < k * 4 := by have := (List.getElem?_eq_some_iff.1 hu).1; simp at this; omega
          rw [List.getElem?_take_of_lt hj, Array.getElem?_toList] at hu
          exact (cell_of_blk hb j).trans hu
      · refine mix_do (o := ⟨some 81, _, _, _, _, _⟩) rfl rfl rfl (fun K hK => ?_)
        have hsr := (HT.out.same (Fr.drew [] W1)).form
        rcases hsr with ⟨hsr, _⟩ | ⟨ad, c9, hsr, hcell⟩
        · cases hsr
        cases hsr
        refine wp_append_grows (.tmp 76) (.tmp 80) 34 62 _ 4 32 rfl Tryz.underlying34 infoFd rfl (by decide) ⟨g, 0, none⟩ k k ((l.take k).flatMap fdC) rfl (by rw [fdC_len]; simp; omega) (fun j u hu => by
            rw [addr_add, Nat.zero_add, ← hT] at *
            have hj : j < k * 4 := by have := (List.getElem?_eq_some_iff.1 hu).1; simp at this; omega
            rw [List.getElem?_take_of_lt hj, Array.getElem?_toList] at hu
            exact (cell_of_blk (w := W1.drew) HGB.out j).trans hu) ⟨g, off, none⟩ (l.length - (k + 1)) (cap1 - (k + 1)) _ rfl (by rw [fdC_len]; simp) hcell (by omega) (by omega) (by omega) ?_
        intro v' W2 r2 f2
        refine hK _ _ trivial ?_
        clear hK K
        try simp only [Act.put, List.setIfInBounds_toArray, List.set_cons_succ, List.set_cons_zero]
        refine mix_take1 (v := ?_) rfl rfl rfl rfl (fun w _ => ?_) ?_
        rotate_left
        (focus (go_simp; rfl))
        simp only [List.setIfInBounds_toArray, List.set_cons_succ, List.set_cons_zero]
        refine mix_end ?_
        go_wp2_with fail
        go_ret
        refine bentP_row (FD.trans f2) (l' := l.eraseIdx k) ?_ (by rw [HEL.out]; omega) (fun b hb => by
          rcases r2.2 with ⟨rfl, _⟩ | ⟨g', _, _, rfl, hbg, _⟩
          · cases hb
          · cases hb; exact Nat.le_trans FD.size hbg)
        unfold FdRow
        rw [HEL.out, HE.out]
        exact row_base r2
    · go_wp2_with fail
      go_ret
      have hr := fdRow_put R1.out k ⟨l[k].says, true, -1, n⟩ hk
      exact bentP_row (F1.out.step ((((Fr.setCell (fp := [g]) _ _ (by simp)).trans (Fr.setCell (fp := [g]) _ _ (by simp))).trans (Fr.setCell (fp := [g]) _ _ (by simp))).trans (Fr.setCell (fp := [g]) _ _ (by simp))) (fun i hi => by simp at hi; exact .inr (by omega))) hr (by simp) (fun b hb => by cases hb; exact hg)
theorem bent_c (v : Value) (l : List Fd) (how n at_ : Int) (w : World) (h : SrcAt w v l.length (l.flatMap fdC)) (hl : l.length ≤ 1000) (i1 : I64 how) (i3 : I64 at_) :
    Calls Tryz.prog 18 #[v, .int .i64 how, .int .i64 n, .int .i64 at_] w (BentP w l.length) :=
  (bent_own_c v l how n at_ w h hl i1 i3).mono fun _ _ ⟨f, v', l', he, ha, hl, _⟩ => ⟨f, v', l', he, ha, hl⟩

end Go.Proofs.YtfidioedjmjddaaGreat
