/-
  dialtoneref08: count, So, Answer.
-/
import Derived.Test.YtfidioedjmjddaaGreatQRg5
import Derived.Deep.WholeRow
namespace Go.Proofs.YtfidioedjmjddaaGreat
open Go.RowKit Go.Lib

abbrev soC (f : Nat → Bool) : Array Value := #[.bool (f 0), .bool (f 1), .bool (f 2), .bool (f 3), .bool (f 4), .bool (f 5), .bool (f 6), .bool (f 7), .bool (f 8), .bool (f 9), .bool (f 10), .bool (f 11), .bool (f 12), .bool (f 13), .bool (f 14), .bool (f 15), .bool (f 16), .bool (f 17), .bool (f 18), .bool (f 19)]
abbrev soV (f : Nat → Bool) : Value := .agg (soC f)
def upd (f : Nat → Bool) (n : Nat) (b : Bool) : Nat → Bool := fun j => if j = n then b else f j
theorem soC_get (f : Nat → Bool) {m : Nat} (hm : m < 20) : (soC f)[m]? = some (.bool (f m)) := by
  match m, hm with
  | 0, _ => rfl
  | 1, _ => rfl
  | 2, _ => rfl
  | 3, _ => rfl
  | 4, _ => rfl
  | 5, _ => rfl
  | 6, _ => rfl
  | 7, _ => rfl
  | 8, _ => rfl
  | 9, _ => rfl
  | 10, _ => rfl
  | 11, _ => rfl
  | 12, _ => rfl
  | 13, _ => rfl
  | 14, _ => rfl
  | 15, _ => rfl
  | 16, _ => rfl
  | 17, _ => rfl
  | 18, _ => rfl
  | 19, _ => rfl
  | n + 20, h => exact absurd h (by omega)
theorem soC_set (f : Nat → Bool) {m : Nat} (hm : m < 20) (b : Bool) : (soC f).setIfInBounds m (.bool b) = soC (upd f m b) := by
  match m, hm with
  | 0, _ => rfl
  | 1, _ => rfl
  | 2, _ => rfl
  | 3, _ => rfl
  | 4, _ => rfl
  | 5, _ => rfl
  | 6, _ => rfl
  | 7, _ => rfl
  | 8, _ => rfl
  | 9, _ => rfl
  | 10, _ => rfl
  | 11, _ => rfl
  | 12, _ => rfl
  | 13, _ => rfl
  | 14, _ => rfl
  | 15, _ => rfl
  | 16, _ => rfl
  | 17, _ => rfl
  | 18, _ => rfl
  | 19, _ => rfl
  | n + 20, h => exact absurd h (by omega)
theorem upd_upd (f : Nat → Bool) (n : Nat) (b b' : Bool) : upd (upd f n b) n b' = upd f n b' := by
  funext j; unfold upd; split <;> rfl
theorem upd_ne (f : Nat → Bool) {n j : Nat} (b : Bool) (h : j ≠ n) : upd f n b j = f j := by unfold upd; rw [if_neg h]

theorem asc_bd {b : Int} : ∀ {l : List Int} {last : Int}, ascGo b last l = true → ∀ x, x ∈ l → last < x ∧ x < b
  | [], _, _, x, hx => by cases hx
  | y :: l, last, h, x, hx => by
    simp only [ascGo, Bool.and_eq_true, isInB_iff] at h
    rcases List.mem_cons.1 hx with rfl | hx
    · omega
    · have := asc_bd h.2 x hx; omega
theorem cl_bd {x : Cl} (h : clB x = true) : (∀ z, z ∈ x.needs → 0 ≤ z ∧ z < 20) ∧ ∀ z, z ∈ x.bars → 0 ≤ z ∧ z < 20 := by
  simp only [clB, ascB, Bool.and_eq_true, isInB_iff] at h
  exact ⟨fun z hz => by have := asc_bd h.1.2.2 z hz; omega, fun z hz => by have := asc_bd h.2.2 z hz; omega⟩
theorem cl_bdg {x : Cl} (h : clB x = true) : (∀ z, z ∈ x.needs → 0 ≤ z ∧ z < x.gives) ∧ ∀ z, z ∈ x.bars → 0 ≤ z ∧ z < x.gives := by
  simp only [clB, ascB, Bool.and_eq_true, isInB_iff] at h
  exact ⟨fun z hz => by have := asc_bd h.1.2.2 z hz; omega, fun z hz => by have := asc_bd h.2.2 z hz; omega⟩

/-- What is so by facts, and by clauses. -/
def factP (q : Qn) (n : Nat) (x : Fa) : Bool := statesB x q && decide (x.says = n)
def clauseP (c : Rb) (q : Qn) (f : Nat → Bool) (n i : Nat) : Bool := decide ((c.cls.getD i default).gives = n) && rulesB c q i && (c.cls.getD i default).needs.all (fun x => f x.toNat) && !(c.cls.getD i default).bars.any (fun x => f x.toNat)
def soN (c : Rb) (q : Qn) (f : Nat → Bool) (n : Nat) : Bool := c.fas.any (factP q n) || (List.range c.cls.length).any (clauseP c q f n)
def soR (c : Rb) (q : Qn) : Nat → Nat → Bool
  | 0 => fun _ => false
  | n + 1 => upd (soR c q n) n (soN c q (soR c q n) n)
theorem clauseP_eq (c : Rb) (q : Qn) (F : Nat → Bool) (n i : Nat) (b : Bool) (x : Cl) (hx : c.cls.getD i default = x) (hB : clB x = true) :
    clauseP c q F n i = (decide (x.gives = n) && rulesB c q i && decide (x.needs.countP (fun z => upd F n b z.toNat) = x.needs.length) && decide (x.bars.countP (fun z => upd F n b z.toNat) = 0)) := by
  unfold clauseP
  rw [hx]
  by_cases hg : x.gives = n
  · obtain ⟨h1, h2⟩ := cl_bdg hB
    have e1 : ∀ z, z ∈ x.needs → upd F n b z.toNat = F z.toNat := fun z hz => upd_ne _ _ (by have := h1 z hz; omega)
    have e2 : ∀ z, z ∈ x.bars → upd F n b z.toNat = F z.toNat := fun z hz => upd_ne _ _ (by have := h2 z hz; omega)
    have k1 : decide (x.needs.countP (fun z => upd F n b z.toNat) = x.needs.length) = x.needs.all (fun z => F z.toNat) := by
      rw [Bool.eq_iff_iff, decide_eq_true_eq, List.countP_eq_length, List.all_eq_true]
      exact ⟨fun h z hz => by rw [← e1 z hz]; exact h z hz, fun h z hz => by rw [e1 z hz]; exact h z hz⟩
    have k2 : decide (x.bars.countP (fun z => upd F n b z.toNat) = 0) = !x.bars.any (fun z => F z.toNat) := by
      rw [Bool.eq_iff_iff, decide_eq_true_eq, List.countP_eq_zero, Bool.not_eq_true', List.any_eq_false]
      exact ⟨fun h z hz => by rw [← e2 z hz]; exact h z hz, fun h z hz => by rw [e2 z hz]; exact h z hz⟩
    rw [k1, k2]
  · simp [hg]
theorem soR_ge (c : Rb) (q : Qn) : ∀ (n j : Nat), n ≤ j → soR c q n j = false
  | 0, _, _ => rfl
  | n + 1, j, h => by rw [soR, upd_ne _ _ (by omega)]; exact soR_ge c q n j (by omega)
theorem soR_upd (c : Rb) (q : Qn) (n : Nat) : upd (soR c q n) n false = soR c q n := by
  funext j
  unfold upd
  split
  · rename_i h; subst h; exact (soR_ge c q j j (Nat.le_refl _)).symm
  · rfl

set_option maxRecDepth 1000000 in
set_option maxHeartbeats 4000000 in
theorem rcount_c (v : Value) (l : List Int) (f : Nat → Bool) (w : World) (h : IntsAt w v l) (hb : ∀ x, x ∈ l → 0 ≤ x ∧ x < 20) : Calls Tryz.prog 63 #[v, soV f] w fun e w' => e = .returned (.int .i64 ((l.countP (fun x => f x.toNat) : Nat) : Int)) ∧ Fr [] w w' := by
  obtain ⟨a, p, rfl⟩ := h.val
  have hl := h.len
  have HI := Lib.hid h; have HBD := Lib.hid hb
  clear h hb
  have HX := Lib.hid (heap_alloc_new w (.cells (soC f) 95))
  unfold soV
  go_enter Tryz.func63, Tryz.ntmps63
  go_wp2_with fail
  go_loopw [5, 6] (fun s i wr => ∃ k : Nat, k ≤ l.length ∧ i = .int .i64 k ∧ s = .int .i64 (((l.take k).countP (fun x => f x.toNat) : Nat) : Int) ∧ Hid (Fr [] (w.alloc (.cells (soC f) 95)) wr)) (fun _ i _ => l.length - (intOf i).toNat)
  case atStart => exact ⟨0, Nat.zero_le _, rfl, rfl, Lib.hid (Fr.refl _ _)⟩
  case round =>
    obtain ⟨k, hk, rfl, rfl, HF⟩ := hrel
    have hcp : (l.take k).countP (fun x => f x.toNat) ≤ k := Nat.le_trans List.countP_le_length (by simp; omega)
    by_cases hlt : k < l.length
    · obtain ⟨b, off, rfl, hc⟩ := (HI.out.same ((Fr.alloc _ _ _).trans HF.out)).at_ (by omega)
      have c0 : wr.cell? ⟨b, off + k, none⟩ = some (.int .i64 l[k]) := hc k _ (by simp [hlt])
      obtain ⟨x0, x20⟩ := HBD.out l[k] (List.getElem_mem hlt)
      have HC : Hid (((l.take (k + 1)).countP (fun x => f x.toNat) : Nat) = (l.take k).countP (fun x => f x.toNat) + (f l[k].toNat).toNat) := Lib.hid (by rw [List.take_succ_eq_append_getElem hlt, List.countP_append, List.countP_singleton]; cases f l[k].toNat <;> rfl)
      generalize l[k] = x at *
      obtain ⟨m, rfl⟩ := Int.eq_ofNat_of_zero_le x0
      have hm : m < 20 := by omega
      have d0 : wr.cell? ⟨w.heap.size, m, none⟩ = some (.bool (f m)) := by rw [cell_of_blk (HF.out.keep HX.out (by simp))]; exact soC_get f hm
      simp only [Int.toNat_natCast] at HC
      generalize (l.take k).countP (fun x => f x.toNat) = N at *
      generalize f m = M at d0 HC
      clear hc x0 x20
      cases M with
      | true =>
        go_wp2_with fail
        go_roundw
        case rel => exact ⟨k + 1, by omega, by go_num, by rw [HC.out]; go_num, HF⟩
        case measure => simp [intOf]; omega
      | false =>
        go_wp2_with fail
        go_roundw
        case rel => exact ⟨k + 1, by omega, by go_num, by rw [HC.out]; rfl, HF⟩
        case measure => simp [intOf]; omega
    · obtain rfl : k = l.length := by omega
      go_wp2_with fail
      go_ret
      exact ⟨by simp, (Fr.alloc _ _ _).trans HF.out⟩

theorem so_load {ev : Operand → Value} {o : Oper} {W : World} {b : Nat} {g : Nat → Bool} (x : Operand) (ho : o.op = .load 95 x) (hx : ev x = .pointer (some ⟨b, 0, none⟩)) (h : W.heap[b]? = some (.cells (soC g) 95 (0, 0))) : (execOp ev o).run Tryz.prog W = .ok (.value (soV g)) W := by
  unfold execOp
  simp only [ho, hx, Instr.loadAt, Instr.sureAddr, Sem.run_bind, Sem.run_pure, Result.andThen_ok, run_loadVar_row W b 95 95 (soC g) (0, 0) _ h Tryz.underlying95 rfl (by kernel_rfl)]
theorem wp_so_load {o : Oper} {a : Act} {W : World} {K : Act → World → Prop} {Q : Exit → Act → World → Prop} {b : Nat} {g : Nat → Bool} (x : Operand) (ho : o.op = .load 95 x) (hx : a.eval x = .pointer (some ⟨b, 0, none⟩)) (h : W.heap[b]? = some (.cells (soC g) 95 (0, 0))) (hk : K (a.put o.dst (soV g)) W) : o.wp Tryz.prog a W K Q := by
  unfold Oper.wp
  rw [so_load x ho hx h]
  exact hk
theorem wp_so_store {o : Oper} {a : Act} {W : World} {K : Act → World → Prop} {Q : Exit → Act → World → Prop} {b : Nat} {f g : Nat → Bool} (x y : Operand) (ho : o.op = .store 95 x y) (hx : a.eval x = .pointer (some ⟨b, 0, none⟩)) (hy : a.eval y = soV g) (h : W.heap[b]? = some (.cells (soC f) 95 (0, 0)))
    (hk : ∀ W', Fr [b] W W' → W'.heap[b]? = some (.cells (soC g) 95 (0, 0)) → K (a.put o.dst undef) W') : o.wp Tryz.prog a W K Q :=
  wp_store_row 95 x y ho b (soC g) hx hy 95 (soC f) h (by kernel_rfl) rfl (by simp [Value.oneCell']) (hk (W.setRow b (soC g)) (Fr.setRow (g := b) _ _ (by simp)) (by rw [setRow_heap _ _ _ _ _ _ h]))
theorem so_alloc {ev : Operand → Value} {o : Oper} {W : World} (ho : o.op = .alloc 95) : (execOp ev o).run Tryz.prog W = .ok (.value (.pointer (some ⟨W.heap.size, 0, none⟩))) (W.alloc (.cells (soC fun _ => false) 95)) := by
  unfold execOp
  simp only [ho]
  go_simp
theorem so_alloc_store {ops : Array Oper} {rest : List Oper} {a : Act} {W : World} {Q : Exit → Act → World → Prop} (o1 o2 : Oper) (p : Tmp) (y : Operand) (g : Nat → Bool) (g1 : o1.guard = none) (h1 : o1.op = .alloc 95) (d1 : o1.dst = some p) (g2 : o2.guard = none) (h2 : o2.op = .store 95 (.tmp p) y) (d2 : o2.dst = none)
    (hx : ∀ v, (a.put (some p) v).eval (.tmp p) = v) (hy : ∀ v, (a.put (some p) v).eval y = soV g) (h : wpList Tryz.prog ops Q rest (a.put (some p) (.pointer (some ⟨W.heap.size, 0, none⟩))) (W.alloc (.cells (soC g) 95))) : wpList Tryz.prog ops Q (o1 :: o2 :: rest) a W := by
  refine wpList_plain g1 fun K hK => ?_
  unfold Oper.wp
  rw [so_alloc h1, Oper.upon_value, d1]
  refine hK _ _ (wpList_plain g2 fun K' hK' => ?_)
  refine wp_store_row 95 _ y h2 W.heap.size (soC g) (hx _) (hy _) 95 (soC fun _ => false) (heap_alloc_new W _) (by kernel_rfl) rfl (by simp [Value.oneCell']) ?_
  rw [World.setRow_alloc_new, d2]
  exact hK' _ _ h
theorem results_so {tmps : Array Value} {W : World} {b : Nat} {g : Nat → Bool} (h : tmps.getD 4 undef = .pointer (some ⟨b, 0, none⟩)) (hg : W.heap[b]? = some (.cells (soC g) 95 (0, 0))) : (results Tryz.f49 tmps).run Tryz.prog W = .ok (soV g) W := by
  have h' : tmps[4]?.getD undef = .pointer (some ⟨b, 0, none⟩) := by rw [← h, Array.getD_eq_getD_getElem?]
  simp only [results, Tryz.results49]
  simp [h', asAddr, run_loadVar_row (P := Tryz.prog) W b 95 95 (soC g) (0, 0) _ hg Tryz.underlying95 rfl (by kernel_rfl)]

set_option maxRecDepth 1000000 in
set_option maxHeartbeats 4000000 in
theorem rso_c (vc vr vf : Value) (ys : List ClV) (c : Rb) (q : Qn) (w : World) (h : RbAt w vc vr vf ys c) (hv : validB c = true) : Calls Tryz.prog 49 #[rbV vc vr vf, qnV q] w fun e w' => e = .returned (soV (soR c q 20)) ∧ Fr [] w w' := by
  obtain ⟨ac, pc, rfl⟩ := h.cls.sl.val
  obtain ⟨ar, pr, rfl⟩ := h.rps.val
  obtain ⟨af, pf, rfl⟩ := h.fas.val
  have hyl := h.cls.sl.len; have hrl := h.rps.len; have hfl := h.fas.len
  have hcl : c.cls.length = ys.length := by rw [h.eq, List.length_map]
  obtain ⟨th, sa, at_, kn⟩ := q
  have HR := Lib.hid h
  clear h
  obtain ⟨hc20, hr10, hf20⟩ := valid_lens hv
  have HV := Lib.hid hv
  clear hv
  have A4 := allocs_at [.cells #[.slice ac ys.length pc, .slice ar c.rps.length pr, .slice af c.fas.length pf] 30, .cells #[.int .i64 th, .int .i64 sa, .int .i64 at_, .int .i64 kn] 33, .cells #[.bool false, .bool false, .bool false, .bool false, .bool false, .bool false, .bool false, .bool false, .bool false, .bool false, .bool false, .bool false, .bool false, .bool false, .bool false, .bool false, .bool false, .bool false, .bool false, .bool false] 95, .cells #[.bool false, .bool false, .bool false, .bool false, .bool false, .bool false, .bool false, .bool false, .bool false, .bool false, .bool false, .bool false, .bool false, .bool false, .bool false, .bool false, .bool false, .bool false, .bool false, .bool false] 95] w
  have F4 := allocs_fr [.cells #[.slice ac ys.length pc, .slice ar c.rps.length pr, .slice af c.fas.length pf] 30, .cells #[.int .i64 th, .int .i64 sa, .int .i64 at_, .int .i64 kn] 33, .cells #[.bool false, .bool false, .bool false, .bool false, .bool false, .bool false, .bool false, .bool false, .bool false, .bool false, .bool false, .bool false, .bool false, .bool false, .bool false, .bool false, .bool false, .bool false, .bool false, .bool false] 95, .cells #[.bool false, .bool false, .bool false, .bool false, .bool false, .bool false, .bool false, .bool false, .bool false, .bool false, .bool false, .bool false, .bool false, .bool false, .bool false, .bool false, .bool false, .bool false, .bool false, .bool false] 95] w
  have HB : Hid (∀ W, Fr [w.heap.size + 1 + 1 + 1] (((((w.alloc (.cells #[.slice ac ys.length pc, .slice ar c.rps.length pr, .slice af c.fas.length pf] 30)).alloc (.cells #[.int .i64 th, .int .i64 sa, .int .i64 at_, .int .i64 kn] 33)).alloc (.cells #[.bool false, .bool false, .bool false, .bool false, .bool false, .bool false, .bool false, .bool false, .bool false, .bool false, .bool false, .bool false, .bool false, .bool false, .bool false, .bool false, .bool false, .bool false, .bool false, .bool false] 95)).alloc (.cells #[.bool false, .bool false, .bool false, .bool false, .bool false, .bool false, .bool false, .bool false, .bool false, .bool false, .bool false, .bool false, .bool false, .bool false, .bool false, .bool false, .bool false, .bool false, .bool false, .bool false] 95))) W → W.heap[w.heap.size]? = some (.cells #[.slice ac ys.length pc, .slice ar c.rps.length pr, .slice af c.fas.length pf] 30) ∧ W.heap[w.heap.size + 1]? = some (.cells #[.int .i64 th, .int .i64 sa, .int .i64 at_, .int .i64 kn] 33) ∧ W.heap[w.heap.size + 1 + 1]? = some (.cells #[.bool false, .bool false, .bool false, .bool false, .bool false, .bool false, .bool false, .bool false, .bool false, .bool false, .bool false, .bool false, .bool false, .bool false, .bool false, .bool false, .bool false, .bool false, .bool false, .bool false] 95)) := Lib.hid fun W hf => ⟨hf.keep (A4 0 (by simp)) (by simp; omega), hf.keep (A4 1 (by simp)) (by simp), hf.keep (A4 2 (by simp)) (by simp)⟩
  have HF4 : Hid (Fr [] w (((((w.alloc (.cells #[.slice ac ys.length pc, .slice ar c.rps.length pr, .slice af c.fas.length pf] 30)).alloc (.cells #[.int .i64 th, .int .i64 sa, .int .i64 at_, .int .i64 kn] 33)).alloc (.cells #[.bool false, .bool false, .bool false, .bool false, .bool false, .bool false, .bool false, .bool false, .bool false, .bool false, .bool false, .bool false, .bool false, .bool false, .bool false, .bool false, .bool false, .bool false, .bool false, .bool false] 95)).alloc (.cells #[.bool false, .bool false, .bool false, .bool false, .bool false, .bool false, .bool false, .bool false, .bool false, .bool false, .bool false, .bool false, .bool false, .bool false, .bool false, .bool false, .bool false, .bool false, .bool false, .bool false] 95)))) := Lib.hid F4
  have HZ : Hid ((((((w.alloc (.cells #[.slice ac ys.length pc, .slice ar c.rps.length pr, .slice af c.fas.length pf] 30)).alloc (.cells #[.int .i64 th, .int .i64 sa, .int .i64 at_, .int .i64 kn] 33)).alloc (.cells #[.bool false, .bool false, .bool false, .bool false, .bool false, .bool false, .bool false, .bool false, .bool false, .bool false, .bool false, .bool false, .bool false, .bool false, .bool false, .bool false, .bool false, .bool false, .bool false, .bool false] 95)).alloc (.cells #[.bool false, .bool false, .bool false, .bool false, .bool false, .bool false, .bool false, .bool false, .bool false, .bool false, .bool false, .bool false, .bool false, .bool false, .bool false, .bool false, .bool false, .bool false, .bool false, .bool false] 95))).heap[w.heap.size + 1 + 1 + 1]? = some (.cells #[.bool false, .bool false, .bool false, .bool false, .bool false, .bool false, .bool false, .bool false, .bool false, .bool false, .bool false, .bool false, .bool false, .bool false, .bool false, .bool false, .bool false, .bool false, .bool false, .bool false] 95)) := Lib.hid (A4 3 (by simp))
  clear A4 F4
  go_enter Tryz.func49, Tryz.ntmps49
  go_wp2_with fail
  generalize ((((w.alloc (.cells #[.slice ac ys.length pc, .slice ar c.rps.length pr, .slice af c.fas.length pf] 30)).alloc (.cells #[.int .i64 th, .int .i64 sa, .int .i64 at_, .int .i64 kn] 33)).alloc (.cells #[.bool false, .bool false, .bool false, .bool false, .bool false, .bool false, .bool false, .bool false, .bool false, .bool false, .bool false, .bool false, .bool false, .bool false, .bool false, .bool false, .bool false, .bool false, .bool false, .bool false] 95)).alloc (.cells #[.bool false, .bool false, .bool false, .bool false, .bool false, .bool false, .bool false, .bool false, .bool false, .bool false, .bool false, .bool false, .bool false, .bool false, .bool false, .bool false, .bool false, .bool false, .bool false, .bool false] 95)) = W0 at *
  go_loopw [6] (fun i wr => ∃ n : Nat, n ≤ 20 ∧ i = .int .i64 n ∧ Hid (Fr [w.heap.size + 1 + 1 + 1] W0 wr) ∧ Hid (wr.heap[w.heap.size + 1 + 1 + 1]? = some (.cells (soC (soR c ⟨th, sa, at_, kn⟩ n)) 95))) (fun i _ => 20 - (intOf i).toNat)
  case atStart => exact ⟨0, by omega, rfl, Lib.hid (Fr.refl _ _), HZ⟩
  case round =>
    obtain ⟨n, hn, rfl, HF, HG⟩ := hrel
    by_cases hn20 : n < 20
    · have hdn : decide ((n : Int) < 20) = true := decide_eq_true (by omega)
      go_wp2_with fail
      go_loopw [7] (fun i wr => ∃ k : Nat, k ≤ c.fas.length ∧ i = .int .i64 k ∧ Hid (Fr [w.heap.size + 1 + 1 + 1] W0 wr) ∧ Hid (wr.heap[w.heap.size + 1 + 1 + 1]? = some (.cells (soC (upd (soR c ⟨th, sa, at_, kn⟩ n) n ((c.fas.take k).any (factP ⟨th, sa, at_, kn⟩ n)))) 95))) (fun i _ => c.fas.length - (intOf i).toNat)
      case atStart => exact ⟨0, Nat.zero_le _, rfl, HF, Lib.hid (by simp only [List.take_zero, List.any_nil]; rw [soR_upd]; exact HG.out)⟩
      case round =>
        clear HF HG
        obtain ⟨k, hk, rfl, HF, HG⟩ := hrel
        have bk := HB.out _ HF.out
        have b0 := cell_of_blk bk.1 0; have b1 := cell_of_blk bk.1 1; have b2 := cell_of_blk bk.1 2
        have q0 := cell_of_blk bk.2.1 0; have q1 := cell_of_blk bk.2.1 1; have q2 := cell_of_blk bk.2.1 2; have q3 := cell_of_blk bk.2.1 3
        clear bk
        by_cases hlt : k < c.fas.length
        · obtain ⟨xb, xo, xcap, hv, hcl_⟩ := faRow_cells' (HR.out.same (HF4.out.step HF.out (fun i hi => by simp at hi; exact .inr (by omega)))).fas k hlt
          cases hv
          have x0 := hcl_ 0 _ rfl; have x1 := hcl_ 1 _ rfl; have x2 := hcl_ 2 _ rfl; have x3 := hcl_ 3 _ rfl; have x4 := hcl_ 4 _ rfl; have x5 := hcl_ 5 _ rfl
          simp only [Nat.add_zero] at x0 x1 x2 x3 x4 x5
          obtain ⟨x, hx⟩ : ∃ x, c.fas[k] = x := ⟨_, rfl⟩
          have HXE := Lib.hid hx
          rw [hx] at x0 x1 x2 x3 x4 x5
          clear hx
          obtain ⟨M, hM⟩ : ∃ M, statesB x ⟨th, sa, at_, kn⟩ = M := ⟨_, rfl⟩
          have CF := Lib.hid fun (W : World) => rfact_c x ⟨th, sa, at_, kn⟩ W
          rw [hM] at CF
          have HM := Lib.hid hM
          clear hM hcl_
          obtain ⟨xt, xs, xf, xe, xkf, xkt⟩ := x
          unfold faV qnV at CF
          simp only at x0 x1 x2 x3 x4 x5 CF
          obtain ⟨S, hs⟩ : ∃ S, (xs == (n : Int)) = S := ⟨_, rfl⟩
          go_wp2_with fail
          refine reg_mix (Fr [] wr) [0, 1, 2, 3, 4, 5, 6, 7, 8, 9, 10, 11, 12, 13, 14, 15, 16] (by kernel_rfl) (by kernel_rfl) (by kernel_rfl) rfl (Fr.drew _ _) ?_
          have FC : Fr [] wr wr.drew := Fr.drew _ _
          generalize wr.drew = WC at FC ⊢
          iterate 6 (refine mix_take1 (v := ?_) rfl rfl rfl rfl (fun w hS => ?_) ?_; rotate_left; (focus (have s0 := hS.cel b0 (by simp); have s1 := hS.cel b1 (by simp); have s2 := hS.cel b2 (by simp); have s3 := hS.cel q0 (by simp); have s4 := hS.cel q1 (by simp); have s5 := hS.cel q2 (by simp); have s6 := hS.cel q3 (by simp); have y0 := hS.cel x0 (by simp); have y1 := hS.cel x1 (by simp); have y2 := hS.cel x2 (by simp); have y3 := hS.cel x3 (by simp); have y4 := hS.cel x4 (by simp); have y5 := hS.cel x5 (by simp); clear hS; go_simp; rfl)); simp only [List.setIfInBounds_toArray, List.set_cons_succ, List.set_cons_zero])
          refine mix_do rfl rfl rfl (fun K hK => ?_)
          go_simp
          refine (CF.out _).mono ?_
          rintro e wq ⟨rfl, fq⟩
          have FC := FC.trans fq
          clear fq
          refine hK _ _ FC ?_
          clear hK K
          try simp only [Act.put, List.setIfInBounds_toArray, List.set_cons_succ, List.set_cons_zero]
          cases M
          · as_aux_lemma =>
            (refine mix_take1 (v := ?_) rfl rfl rfl rfl (fun w hS => ?_) ?_; rotate_left; (focus (clear hS; go_simp; rfl)); simp only [List.setIfInBounds_toArray, List.set_cons_succ, List.set_cons_zero])
            iterate 8 (refine mix_skipT rfl rfl rfl rfl rfl FC ?_; simp only [List.setIfInBounds_toArray, List.set_cons_succ, List.set_cons_zero])
            (refine mix_take1 (v := ?_) rfl rfl rfl rfl (fun w hS => ?_) ?_; rotate_left; (focus (clear hS; go_simp; rfl)); simp only [List.setIfInBounds_toArray, List.set_cons_succ, List.set_cons_zero])
            refine mix_end ?_
            clear b0 b1 b2 q0 q1 q2 q3
            clear x0 x1 x2 x3 x4 x5 CF
            have HFC := Lib.hid (HF.out.trans (FC.mono (fun _ h => by cases h)))
            have HGC := Lib.hid (FC.keep HG.out (by simp))
            clear FC HF HG
            have HXX : Hid (factP ⟨th, sa, at_, kn⟩ n ⟨xt, xs, xf, xe, xkf, xkt⟩ = false) := Lib.hid (by unfold factP; rw [HM.out]; rfl)
            clear HM hs
            go_wp2_with fail
            go_roundw
            case rel => exact ⟨k + 1, by omega, by go_num, HFC, Lib.hid (by rw [any_take _ _ k hlt, HXE.out, HXX.out, Bool.or_false]; exact HGC.out)⟩
            case measure => simp [intOf]; omega
          · as_aux_lemma =>
            (refine mix_take1 (v := ?_) rfl rfl rfl rfl (fun w hS => ?_) ?_; rotate_left; (focus (clear hS; go_simp; rfl)); simp only [List.setIfInBounds_toArray, List.set_cons_succ, List.set_cons_zero])
            cases S
            · as_aux_lemma =>
              iterate 8 (refine mix_takeg (v := ?_) rfl rfl rfl rfl rfl rfl (fun w hS => ?_) ?_; rotate_left; (focus (have s0 := hS.cel b0 (by simp); have s1 := hS.cel b1 (by simp); have s2 := hS.cel b2 (by simp); have s3 := hS.cel q0 (by simp); have s4 := hS.cel q1 (by simp); have s5 := hS.cel q2 (by simp); have s6 := hS.cel q3 (by simp); have y0 := hS.cel x0 (by simp); have y1 := hS.cel x1 (by simp); have y2 := hS.cel x2 (by simp); have y3 := hS.cel x3 (by simp); have y4 := hS.cel x4 (by simp); have y5 := hS.cel x5 (by simp); clear hS; go_simp; rfl)); simp only [List.setIfInBounds_toArray, List.set_cons_succ, List.set_cons_zero])
              (refine mix_take1 (v := ?_) rfl rfl rfl rfl (fun w hS => ?_) ?_; rotate_left; (focus (clear hS; go_simp; rfl)); simp only [List.setIfInBounds_toArray, List.set_cons_succ, List.set_cons_zero])
              refine mix_end ?_
              clear b0 b1 b2 q0 q1 q2 q3
              clear x0 x1 x2 x3 x4 x5 CF
              have HFC := Lib.hid (HF.out.trans (FC.mono (fun _ h => by cases h)))
              have HGC := Lib.hid (FC.keep HG.out (by simp))
              clear FC HF HG
              have HXX : Hid (factP ⟨th, sa, at_, kn⟩ n ⟨xt, xs, xf, xe, xkf, xkt⟩ = false) := Lib.hid (by unfold factP; rw [HM.out]; simpa using hs)
              clear HM hs
              go_wp2_with fail
              go_roundw
              case rel => exact ⟨k + 1, by omega, by go_num, HFC, Lib.hid (by rw [any_take _ _ k hlt, HXE.out, HXX.out, Bool.or_false]; exact HGC.out)⟩
              case measure => simp [intOf]; omega
            · as_aux_lemma =>
              iterate 8 (refine mix_takeg (v := ?_) rfl rfl rfl rfl rfl rfl (fun w hS => ?_) ?_; rotate_left; (focus (have s0 := hS.cel b0 (by simp); have s1 := hS.cel b1 (by simp); have s2 := hS.cel b2 (by simp); have s3 := hS.cel q0 (by simp); have s4 := hS.cel q1 (by simp); have s5 := hS.cel q2 (by simp); have s6 := hS.cel q3 (by simp); have y0 := hS.cel x0 (by simp); have y1 := hS.cel x1 (by simp); have y2 := hS.cel x2 (by simp); have y3 := hS.cel x3 (by simp); have y4 := hS.cel x4 (by simp); have y5 := hS.cel x5 (by simp); clear hS; go_simp; rfl)); simp only [List.setIfInBounds_toArray, List.set_cons_succ, List.set_cons_zero])
              (refine mix_take1 (v := ?_) rfl rfl rfl rfl (fun w hS => ?_) ?_; rotate_left; (focus (clear hS; go_simp; rfl)); simp only [List.setIfInBounds_toArray, List.set_cons_succ, List.set_cons_zero])
              refine mix_end ?_
              clear b0 b1 b2 q0 q1 q2 q3
              clear x0 x1 x2 x3 x4 x5 CF
              have HFC := Lib.hid (HF.out.trans (FC.mono (fun _ h => by cases h)))
              have HGC := Lib.hid (FC.keep HG.out (by simp))
              clear FC HF HG
              have HXX : Hid (factP ⟨th, sa, at_, kn⟩ n ⟨xt, xs, xf, xe, xkf, xkt⟩ = true) := Lib.hid (by unfold factP; rw [HM.out]; simpa using hs)
              clear HM hs
              have z0 := cell_of_blk HGC.out n; rw [soC_get _ hn20] at z0
              have z1 := free_of_blk HGC.out n
              have HFS := Lib.hid (HFC.out.trans (Fr.setCell (fp := [w.heap.size + 1 + 1 + 1]) _ (p := ⟨w.heap.size + 1 + 1 + 1, n, none⟩) (.bool true) (by simp)))
              have HGS := Lib.hid (heap_setCell_same (i := n) (.bool true) HGC.out)
              rw [soC_set _ hn20, upd_upd] at HGS
              go_wp2_with fail
              clear z0 z1
              go_roundw
              case rel => exact ⟨k + 1, by omega, by go_num, HFS, Lib.hid (by rw [any_take _ _ k hlt, HXE.out, HXX.out, Bool.or_true]; exact HGS.out)⟩
              case measure => simp [intOf]; omega
        · obtain rfl : k = c.fas.length := by omega
          have HG0 := HG
          rw [List.take_length] at HG0
          clear HG
          have HF0 := HF
          go_wp2_with fail
          clear b0 b1 b2 q0 q1 q2 q3 HF
          go_loopw [8] (fun i wr => ∃ k : Nat, k ≤ ys.length ∧ i = .int .i64 k ∧ Hid (Fr [w.heap.size + 1 + 1 + 1] W0 wr) ∧ Hid (wr.heap[w.heap.size + 1 + 1 + 1]? = some (.cells (soC (upd (soR c ⟨th, sa, at_, kn⟩ n) n (c.fas.any (factP ⟨th, sa, at_, kn⟩ n) || (List.range k).any (clauseP c ⟨th, sa, at_, kn⟩ (soR c ⟨th, sa, at_, kn⟩ n) n)))) 95))) (fun i _ => ys.length - (intOf i).toNat)
          case atStart => exact ⟨0, Nat.zero_le _, rfl, HF0, Lib.hid (by simp only [List.range_zero, List.any_nil, Bool.or_false]; exact HG0.out)⟩
          case round =>
            clear HF0 HG0
            obtain ⟨k, hk, rfl, HF, HG⟩ := hrel
            have bk := HB.out _ HF.out
            have b0 := cell_of_blk bk.1 0; have b1 := cell_of_blk bk.1 1; have b2 := cell_of_blk bk.1 2
            have q0 := cell_of_blk bk.2.1 0; have q1 := cell_of_blk bk.2.1 1; have q2 := cell_of_blk bk.2.1 2; have q3 := cell_of_blk bk.2.1 3
            clear bk
            by_cases hlt : k < ys.length
            · obtain ⟨xb, xo, xcap, hv, hcl_⟩ := clRow_cells (HR.out.same (HF4.out.step HF.out (fun i hi => by simp at hi; exact .inr (by omega)))).cls.sl k hlt
              cases hv
              have x0 := hcl_ 0 _ rfl; have x1 := hcl_ 1 _ rfl; have x2 := hcl_ 2 _ rfl; have x3 := hcl_ 3 _ rfl; have x4 := hcl_ 4 _ rfl; have x5 := hcl_ 5 _ rfl
              simp only [Nat.add_zero] at x0 x1 x2 x3 x4 x5
              obtain ⟨y, hy⟩ : ∃ y, ys[k] = y := ⟨_, rfl⟩
              have HYM : Hid (y ∈ ys) := Lib.hid (by rw [← hy]; exact List.getElem_mem _)
              have HYB : Hid (clB y.x = true) := Lib.hid (by rw [← hy]; exact valid_clB HV.out HR.out.eq hlt)
              have HYX : Hid (c.cls.getD k default = y.x) := Lib.hid (by rw [← hy]; simp [HR.out.eq, hlt])
              rw [hy] at x0 x1 x2 x3 x4 x5
              clear hy hcl_
              have HN := Lib.hid ((HR.out.same (HF4.out.step HF.out (fun i hi => by simp at hi; exact .inr (by omega)))).cls.needs y HYM.out); have HBA := Lib.hid ((HR.out.same (HF4.out.step HF.out (fun i hi => by simp at hi; exact .inr (by omega)))).cls.bars y HYM.out)
              obtain ⟨⟨xp, xf, xt, xn, xb_, xg⟩, vn, vb⟩ := y
              obtain ⟨an, pn, hvn⟩ := HN.out.val
              obtain ⟨ab, pb, hvb⟩ := HBA.out.val
              simp only at hvn hvb x0 x1 x2 x3 x4 x5 HYB HYX
              subst hvn hvb
              simp only at HN HBA
              have CL := Lib.hid fun (W : World) (hf : Fr [] (wr.alloc (.cells #[.int .i64 xp, .int .i64 xf, .int .i64 xt, .slice an xn.length pn, .slice ab xb_.length pb, .int .i64 xg] 67)) W) => rclause_c _ _ _ ys c ⟨th, sa, at_, kn⟩ k W (HR.out.same ((HF4.out.step HF.out (fun i hi => by simp at hi; exact .inr (by omega))).trans ((Fr.alloc _ _ _).trans hf))) hlt
              obtain ⟨M, hM⟩ : ∃ M, rulesB c ⟨th, sa, at_, kn⟩ k = M := ⟨_, rfl⟩
              obtain ⟨g, hge⟩ : ∃ g, upd (soR c ⟨th, sa, at_, kn⟩ n) n (c.fas.any (factP ⟨th, sa, at_, kn⟩ n) || (List.range k).any (clauseP c ⟨th, sa, at_, kn⟩ (soR c ⟨th, sa, at_, kn⟩ n) n)) = g := ⟨_, rfl⟩
              have HCPE := clauseP_eq c ⟨th, sa, at_, kn⟩ (soR c ⟨th, sa, at_, kn⟩ n) n k (c.fas.any (factP ⟨th, sa, at_, kn⟩ n) || (List.range k).any (clauseP c ⟨th, sa, at_, kn⟩ (soR c ⟨th, sa, at_, kn⟩ n) n)) _ HYX.out HYB.out
              simp only [hge, hM] at HCPE
              rw [hM] at CL
              rw [hge] at HG
              have HGE := Lib.hid hge.symm
              have bd := cl_bd HYB.out
              have CN := Lib.hid fun (W : World) (hf : Fr [] (wr.alloc (.cells #[.int .i64 xp, .int .i64 xf, .int .i64 xt, .slice an xn.length pn, .slice ab xb_.length pb, .int .i64 xg] 67)) W) => rcount_c _ xn g W (HN.out.same ((Fr.alloc _ _ _).trans hf)) bd.1
              have CM := Lib.hid fun (W : World) (hf : Fr [] (wr.alloc (.cells #[.int .i64 xp, .int .i64 xf, .int .i64 xt, .slice an xn.length pn, .slice ab xb_.length pb, .int .i64 xg] 67)) W) => rcount_c _ xb_ g W (HBA.out.same ((Fr.alloc _ _ _).trans hf)) bd.2
              generalize xn.countP (fun x => g x.toNat) = N1 at *
              generalize xb_.countP (fun x => g x.toNat) = N2 at *
              obtain ⟨G, hG⟩ : ∃ G, (xg == (n : Int)) = G := ⟨_, rfl⟩
              obtain ⟨E1, hE1⟩ : ∃ E1, ((N1 : Int) == (xn.length : Int)) = E1 := ⟨_, rfl⟩
              obtain ⟨E2, hE2⟩ : ∃ E2, ((N2 : Int) == 0) = E2 := ⟨_, rfl⟩
              have HCP : Hid (clauseP c ⟨th, sa, at_, kn⟩ (soR c ⟨th, sa, at_, kn⟩ n) n k = (G && M && E1 && E2)) := Lib.hid (by rw [HCPE, ← hG, ← hE1, ← hE2]; simp [Bool.beq_eq_decide_eq, Int.natCast_inj])
              have HFB := Lib.hid (HF.out.trans (Fr.alloc _ wr (.cells #[.int .i64 xp, .int .i64 xf, .int .i64 xt, .slice an xn.length pn, .slice ab xb_.length pb, .int .i64 xg] 67)))
              have HGB := Lib.hid ((Fr.alloc [] wr (.cells #[.int .i64 xp, .int .i64 xf, .int .i64 xt, .slice an xn.length pn, .slice ab xb_.length pb, .int .i64 xg] 67)).keep HG.out (by simp))
              have HBX := Lib.hid (heap_alloc_new wr (.cells #[.int .i64 xp, .int .i64 xf, .int .i64 xt, .slice an xn.length pn, .slice ab xb_.length pb, .int .i64 xg] 67))
              unfold rbV qnV at CL
              simp only at CL
              clear hM hge HCPE bd HF HG HYM HYB HYX HN HBA
              go_wp2_with fail
              clear b0 b1 b2 q0 q1 q2 q3 x0 x1 x2 x3 x4 x5
              have g0 := cell_of_blk HBX.out 0; have g1 := cell_of_blk HBX.out 1; have g2 := cell_of_blk HBX.out 2; have g3 := cell_of_blk HBX.out 3; have g4 := cell_of_blk HBX.out 4; have g5 := cell_of_blk HBX.out 5
              have bk := HB.out _ HFB.out
              have b0 := cell_of_blk bk.1 0; have b1 := cell_of_blk bk.1 1; have b2 := cell_of_blk bk.1 2
              have q0 := cell_of_blk bk.2.1 0; have q1 := cell_of_blk bk.2.1 1; have q2 := cell_of_blk bk.2.1 2; have q3 := cell_of_blk bk.2.1 3
              clear bk
              generalize wr.alloc (.cells #[.int .i64 xp, .int .i64 xf, .int .i64 xt, .slice an xn.length pn, .slice ab xb_.length pb, .int .i64 xg] 67) = WB at *
              refine reg_mix (Fr [] WB) [0, 1, 2, 3, 4, 5, 6, 7, 8, 9, 10, 11, 12, 13, 15, 16, 17, 14, 18, 19, 20, 21, 22, 23, 24, 25, 26] (by kernel_rfl) (by kernel_rfl) (by kernel_rfl) rfl (Fr.drew _ _) ?_
              have FC : Fr [] WB WB.drew := Fr.drew _ _
              generalize WB.drew = WC at FC ⊢
              iterate 5 (refine mix_take1 (v := ?_) rfl rfl rfl rfl (fun w hS => ?_) ?_; rotate_left; (focus (have t0 := hS.cel g0 (by simp); have t1 := hS.cel g1 (by simp); have t2 := hS.cel g2 (by simp); have t3 := hS.cel g3 (by simp); have t4 := hS.cel g4 (by simp); have t5 := hS.cel g5 (by simp); have s0 := hS.cel b0 (by simp); have s1 := hS.cel b1 (by simp); have s2 := hS.cel b2 (by simp); have s3 := hS.cel q0 (by simp); have s4 := hS.cel q1 (by simp); have s5 := hS.cel q2 (by simp); have s6 := hS.cel q3 (by simp); clear hS; go_simp; rfl)); simp only [List.setIfInBounds_toArray, List.set_cons_succ, List.set_cons_zero])
              cases G
              · as_aux_lemma =>
                iterate 4 (refine mix_skipT rfl rfl rfl rfl rfl FC ?_; simp only [List.setIfInBounds_toArray, List.set_cons_succ, List.set_cons_zero])
                iterate 2 (refine mix_take1 (v := ?_) rfl rfl rfl rfl (fun w hS => ?_) ?_; rotate_left; (focus (clear hS; go_simp; rfl)); simp only [List.setIfInBounds_toArray, List.set_cons_succ, List.set_cons_zero])
                iterate 8 (refine mix_skipT rfl rfl rfl rfl rfl FC ?_; simp only [List.setIfInBounds_toArray, List.set_cons_succ, List.set_cons_zero])
                iterate 2 (refine mix_take1 (v := ?_) rfl rfl rfl rfl (fun w hS => ?_) ?_; rotate_left; (focus (clear hS; go_simp; rfl)); simp only [List.setIfInBounds_toArray, List.set_cons_succ, List.set_cons_zero])
                iterate 5 (refine mix_skipT rfl rfl rfl rfl rfl FC ?_; simp only [List.setIfInBounds_toArray, List.set_cons_succ, List.set_cons_zero])
                (refine mix_take1 (v := ?_) rfl rfl rfl rfl (fun w hS => ?_) ?_; rotate_left; (focus (clear hS; go_simp; rfl)); simp only [List.setIfInBounds_toArray, List.set_cons_succ, List.set_cons_zero])
                refine mix_end ?_
                clear b0 b1 b2 q0 q1 q2 q3
                clear g0 g1 g2 g3 g4 g5
                have HFC := Lib.hid (HFB.out.trans (FC.mono (fun _ h => by cases h)))
                have HGC := Lib.hid (FC.keep HGB.out (by simp))
                clear FC CL CN CM
                rw [HGE.out] at HGC
                go_wp2_with fail
                go_roundw
                case rel => exact ⟨k + 1, by omega, by go_num, HFC, Lib.hid (by rw [List.range_succ, List.any_append, List.any_cons, List.any_nil, HCP.out, show ((false && M && E1 && E2) || false) = false by (try cases M) <;> (try cases E1) <;> (try cases E2) <;> rfl, Bool.or_false]; exact HGC.out)⟩
                case measure => simp [intOf]; omega
              · as_aux_lemma =>
                iterate 3 (refine mix_takeg (v := ?_) rfl rfl rfl rfl rfl rfl (fun w hS => ?_) ?_; rotate_left; (focus (have s0 := hS.cel b0 (by simp); have s1 := hS.cel b1 (by simp); have s2 := hS.cel b2 (by simp); have s3 := hS.cel q0 (by simp); have s4 := hS.cel q1 (by simp); have s5 := hS.cel q2 (by simp); have s6 := hS.cel q3 (by simp); clear hS; go_simp; rfl)); simp only [List.setIfInBounds_toArray, List.set_cons_succ, List.set_cons_zero])
                refine mix_dog rfl rfl rfl rfl rfl (fun K hK => ?_)
                go_simp
                refine (CL.out _ FC).mono ?_
                rintro e wq ⟨rfl, fq⟩
                have FC := FC.trans fq
                clear fq
                refine hK _ _ FC ?_
                clear hK K
                try simp only [Act.put, List.setIfInBounds_toArray, List.set_cons_succ, List.set_cons_zero]
                cases M
                · as_aux_lemma =>
                  iterate 2 (refine mix_take1 (v := ?_) rfl rfl rfl rfl (fun w hS => ?_) ?_; rotate_left; (focus (clear hS; go_simp; rfl)); simp only [List.setIfInBounds_toArray, List.set_cons_succ, List.set_cons_zero])
                  iterate 8 (refine mix_skipT rfl rfl rfl rfl rfl FC ?_; simp only [List.setIfInBounds_toArray, List.set_cons_succ, List.set_cons_zero])
                  iterate 2 (refine mix_take1 (v := ?_) rfl rfl rfl rfl (fun w hS => ?_) ?_; rotate_left; (focus (clear hS; go_simp; rfl)); simp only [List.setIfInBounds_toArray, List.set_cons_succ, List.set_cons_zero])
                  iterate 5 (refine mix_skipT rfl rfl rfl rfl rfl FC ?_; simp only [List.setIfInBounds_toArray, List.set_cons_succ, List.set_cons_zero])
                  (refine mix_take1 (v := ?_) rfl rfl rfl rfl (fun w hS => ?_) ?_; rotate_left; (focus (clear hS; go_simp; rfl)); simp only [List.setIfInBounds_toArray, List.set_cons_succ, List.set_cons_zero])
                  refine mix_end ?_
                  clear b0 b1 b2 q0 q1 q2 q3
                  clear g0 g1 g2 g3 g4 g5
                  have HFC := Lib.hid (HFB.out.trans (FC.mono (fun _ h => by cases h)))
                  have HGC := Lib.hid (FC.keep HGB.out (by simp))
                  clear FC CL CN CM
                  rw [HGE.out] at HGC
                  go_wp2_with fail
                  go_roundw
                  case rel => exact ⟨k + 1, by omega, by go_num, HFC, Lib.hid (by rw [List.range_succ, List.any_append, List.any_cons, List.any_nil, HCP.out, show ((true && false && E1 && E2) || false) = false by (try cases M) <;> (try cases E1) <;> (try cases E2) <;> rfl, Bool.or_false]; exact HGC.out)⟩
                  case measure => simp [intOf]; omega
                · as_aux_lemma =>
                  iterate 2 (refine mix_take1 (v := ?_) rfl rfl rfl rfl (fun w hS => ?_) ?_; rotate_left; (focus (clear hS; go_simp; rfl)); simp only [List.setIfInBounds_toArray, List.set_cons_succ, List.set_cons_zero])
                  iterate 2 (refine mix_takeg (v := ?_) rfl rfl rfl rfl rfl rfl (fun w hS => ?_) ?_; rotate_left; (focus (have t0 := hS.cel g0 (by simp); have t1 := hS.cel g1 (by simp); have t2 := hS.cel g2 (by simp); have t3 := hS.cel g3 (by simp); have t4 := hS.cel g4 (by simp); have t5 := hS.cel g5 (by simp); clear hS; go_simp; rfl)); simp only [List.setIfInBounds_toArray, List.set_cons_succ, List.set_cons_zero])
                  (refine mix_takeg (v := soV g) rfl rfl rfl rfl rfl rfl (fun w hS => so_load _ rfl rfl (hS.keep HGB.out (by simp))) ?_; simp only [List.setIfInBounds_toArray, List.set_cons_succ, List.set_cons_zero])
                  iterate 3 (refine mix_takeg (v := ?_) rfl rfl rfl rfl rfl rfl (fun w hS => ?_) ?_; rotate_left; (focus (have t0 := hS.cel g0 (by simp); have t1 := hS.cel g1 (by simp); have t2 := hS.cel g2 (by simp); have t3 := hS.cel g3 (by simp); have t4 := hS.cel g4 (by simp); have t5 := hS.cel g5 (by simp); clear hS; go_simp; rfl)); simp only [List.setIfInBounds_toArray, List.set_cons_succ, List.set_cons_zero])
                  refine mix_dog rfl rfl rfl rfl rfl (fun K hK => ?_)
                  go_simp
                  refine (CN.out _ FC).mono ?_
                  rintro e wq ⟨rfl, fq⟩
                  have FC := FC.trans fq
                  clear fq
                  refine hK _ _ FC ?_
                  clear hK K
                  try simp only [Act.put, List.setIfInBounds_toArray, List.set_cons_succ, List.set_cons_zero]
                  (refine mix_takeg (v := ?_) rfl rfl rfl rfl rfl rfl (fun w hS => ?_) ?_; rotate_left; (focus (clear hS; go_simp; rfl)); simp only [List.setIfInBounds_toArray, List.set_cons_succ, List.set_cons_zero])
                  cases E1
                  · as_aux_lemma =>
                    iterate 2 (refine mix_take1 (v := ?_) rfl rfl rfl rfl (fun w hS => ?_) ?_; rotate_left; (focus (clear hS; go_simp; rfl)); simp only [List.setIfInBounds_toArray, List.set_cons_succ, List.set_cons_zero])
                    iterate 5 (refine mix_skipT rfl rfl rfl rfl rfl FC ?_; simp only [List.setIfInBounds_toArray, List.set_cons_succ, List.set_cons_zero])
                    (refine mix_take1 (v := ?_) rfl rfl rfl rfl (fun w hS => ?_) ?_; rotate_left; (focus (clear hS; go_simp; rfl)); simp only [List.setIfInBounds_toArray, List.set_cons_succ, List.set_cons_zero])
                    refine mix_end ?_
                    clear b0 b1 b2 q0 q1 q2 q3
                    clear g0 g1 g2 g3 g4 g5
                    have HFC := Lib.hid (HFB.out.trans (FC.mono (fun _ h => by cases h)))
                    have HGC := Lib.hid (FC.keep HGB.out (by simp))
                    clear FC CL CN CM
                    rw [HGE.out] at HGC
                    go_wp2_with fail
                    go_roundw
                    case rel => exact ⟨k + 1, by omega, by go_num, HFC, Lib.hid (by rw [List.range_succ, List.any_append, List.any_cons, List.any_nil, HCP.out, show ((true && true && false && E2) || false) = false by (try cases M) <;> (try cases E1) <;> (try cases E2) <;> rfl, Bool.or_false]; exact HGC.out)⟩
                    case measure => simp [intOf]; omega
                  · as_aux_lemma =>
                    iterate 2 (refine mix_take1 (v := ?_) rfl rfl rfl rfl (fun w hS => ?_) ?_; rotate_left; (focus (clear hS; go_simp; rfl)); simp only [List.setIfInBounds_toArray, List.set_cons_succ, List.set_cons_zero])
                    iterate 2 (refine mix_takeg (v := ?_) rfl rfl rfl rfl rfl rfl (fun w hS => ?_) ?_; rotate_left; (focus (have t0 := hS.cel g0 (by simp); have t1 := hS.cel g1 (by simp); have t2 := hS.cel g2 (by simp); have t3 := hS.cel g3 (by simp); have t4 := hS.cel g4 (by simp); have t5 := hS.cel g5 (by simp); clear hS; go_simp; rfl)); simp only [List.setIfInBounds_toArray, List.set_cons_succ, List.set_cons_zero])
                    (refine mix_takeg (v := soV g) rfl rfl rfl rfl rfl rfl (fun w hS => so_load _ rfl rfl (hS.keep HGB.out (by simp))) ?_; simp only [List.setIfInBounds_toArray, List.set_cons_succ, List.set_cons_zero])
                    refine mix_dog rfl rfl rfl rfl rfl (fun K hK => ?_)
                    go_simp
                    refine (CM.out _ FC).mono ?_
                    rintro e wq ⟨rfl, fq⟩
                    have FC := FC.trans fq
                    clear fq
                    refine hK _ _ FC ?_
                    clear hK K
                    try simp only [Act.put, List.setIfInBounds_toArray, List.set_cons_succ, List.set_cons_zero]
                    cases E2
                    · as_aux_lemma =>
                      (refine mix_takeg (v := ?_) rfl rfl rfl rfl rfl rfl (fun w hS => ?_) ?_; rotate_left; (focus (clear hS; go_simp; rfl)); simp only [List.setIfInBounds_toArray, List.set_cons_succ, List.set_cons_zero])
                      (refine mix_take1 (v := ?_) rfl rfl rfl rfl (fun w hS => ?_) ?_; rotate_left; (focus (clear hS; go_simp; rfl)); simp only [List.setIfInBounds_toArray, List.set_cons_succ, List.set_cons_zero])
                      refine mix_end ?_
                      clear b0 b1 b2 q0 q1 q2 q3
                      clear g0 g1 g2 g3 g4 g5
                      have HFC := Lib.hid (HFB.out.trans (FC.mono (fun _ h => by cases h)))
                      have HGC := Lib.hid (FC.keep HGB.out (by simp))
                      clear FC CL CN CM
                      rw [HGE.out] at HGC
                      go_wp2_with fail
                      go_roundw
                      case rel => exact ⟨k + 1, by omega, by go_num, HFC, Lib.hid (by rw [List.range_succ, List.any_append, List.any_cons, List.any_nil, HCP.out, show ((true && true && true && false) || false) = false by (try cases M) <;> (try cases E1) <;> (try cases E2) <;> rfl, Bool.or_false]; exact HGC.out)⟩
                      case measure => simp [intOf]; omega
                    · as_aux_lemma =>
                      (refine mix_takeg (v := ?_) rfl rfl rfl rfl rfl rfl (fun w hS => ?_) ?_; rotate_left; (focus (clear hS; go_simp; rfl)); simp only [List.setIfInBounds_toArray, List.set_cons_succ, List.set_cons_zero])
                      (refine mix_take1 (v := ?_) rfl rfl rfl rfl (fun w hS => ?_) ?_; rotate_left; (focus (clear hS; go_simp; rfl)); simp only [List.setIfInBounds_toArray, List.set_cons_succ, List.set_cons_zero])
                      refine mix_end ?_
                      clear b0 b1 b2 q0 q1 q2 q3
                      clear g0 g1 g2 g3 g4 g5
                      have HFC := Lib.hid (HFB.out.trans (FC.mono (fun _ h => by cases h)))
                      have HGC := Lib.hid (FC.keep HGB.out (by simp))
                      clear FC CL CN CM
                      rw [HGE.out] at HGC
                      have z0 := cell_of_blk HGC.out n; rw [soC_get _ hn20] at z0
                      have z1 := free_of_blk HGC.out n
                      have HFS := Lib.hid (HFC.out.trans (Fr.setCell (fp := [w.heap.size + 1 + 1 + 1]) _ (p := ⟨w.heap.size + 1 + 1 + 1, n, none⟩) (.bool true) (by simp)))
                      have HGS := Lib.hid (heap_setCell_same (i := n) (.bool true) HGC.out)
                      rw [soC_set _ hn20, upd_upd] at HGS
                      go_wp2_with fail
                      clear z0 z1
                      go_roundw
                      case rel => exact ⟨k + 1, by omega, by go_num, HFS, Lib.hid (by rw [List.range_succ, List.any_append, List.any_cons, List.any_nil, HCP.out, show ((true && true && true && true) || false) = true from rfl, Bool.or_true, Bool.or_true]; exact HGS.out)⟩
                      case measure => simp [intOf]; omega
            · obtain rfl : k = ys.length := by omega
              have HG9 : Hid (wr.heap[w.heap.size + 1 + 1 + 1]? = some (.cells (soC (soR c ⟨th, sa, at_, kn⟩ (n + 1))) 95)) := Lib.hid (by have := HG.out; rw [← hcl] at this; exact this)
              clear HG
              go_wp2_with fail
              clear b0 b1 b2 q0 q1 q2 q3
              go_roundw
              case rel => exact ⟨n + 1, by omega, by go_num, HF, HG9⟩
              case measure => simp [intOf]; omega
    · obtain rfl : n = 20 := by omega
      have bk := (HB.out _ HF.out).2.2
      have HZ2 := Lib.hid bk
      clear bk
      go_wp2_with (first | ((with_reducible refine wpList_of_wp (o := ⟨some 81, _, _, _, _, _⟩) rfl (fun K hK => ?_)); refine wp_so_load _ rfl rfl HG.out ?_; refine hK _ _ ?_; clear hK) | ((with_reducible refine wpList_of_wp (o := ⟨none, .store _ _ _, _, _, _, _⟩) rfl (fun K hK => ?_)); refine wp_so_store (f := fun _ => false) _ _ rfl rfl rfl HZ2.out ?_; intro W9 h1 h2; have H1 := Lib.hid h1; have H2 := Lib.hid h2; clear h1 h2; refine hK _ _ ?_; clear hK))
      exact bodyPost_ret (v := soV (soR c ⟨th, sa, at_, kn⟩ 20)) (results_so rfl H2.out) rfl ⟨rfl, (HF4.out.step HF.out (fun i hi => by simp at hi; exact .inr (by omega))).step H1.out (fun i hi => by simp at hi; exact .inr (by omega))⟩


set_option maxRecDepth 1000000 in
set_option maxHeartbeats 4000000 in
theorem ranswer_c (vc vr vf : Value) (ys : List ClV) (c : Rb) (q : Qn) (w : World) (h : RbAt w vc vr vf ys c) : Calls Tryz.prog 12 #[rbV vc vr vf, qnV q] w fun e w' => Fr [] w w' ∧ ((okB c q = false ∧ e = .returned (.tuple #[.bool false, .int .i64 80])) ∨ (okB c q = true ∧ e = .returned (.tuple #[.bool (soR c q 20 q.says.toNat), .int .i64 0]))) := by
  obtain ⟨ac, pc, rfl⟩ := h.cls.sl.val
  obtain ⟨ar, pr, rfl⟩ := h.rps.val
  obtain ⟨af, pf, rfl⟩ := h.fas.val
  have hyl := h.cls.sl.len; have hrl := h.rps.len; have hfl := h.fas.len
  have hcl : c.cls.length = ys.length := by rw [h.eq, List.length_map]
  obtain ⟨th, sa, at_, kn⟩ := q
  have HR := Lib.hid h
  clear h
  have A2 := allocs_at [.cells #[.slice ac ys.length pc, .slice ar c.rps.length pr, .slice af c.fas.length pf] 30, .cells #[.int .i64 th, .int .i64 sa, .int .i64 at_, .int .i64 kn] 33] w
  have F2 := allocs_fr [.cells #[.slice ac ys.length pc, .slice ar c.rps.length pr, .slice af c.fas.length pf] 30, .cells #[.int .i64 th, .int .i64 sa, .int .i64 at_, .int .i64 kn] 33] w
  have HB : Hid (w.heap.size < w.heap.size + 1 ∧ ∀ W, Fr [] ((w.alloc (.cells #[.slice ac ys.length pc, .slice ar c.rps.length pr, .slice af c.fas.length pf] 30)).alloc (.cells #[.int .i64 th, .int .i64 sa, .int .i64 at_, .int .i64 kn] 33)) W → W.heap[w.heap.size]? = some (.cells #[.slice ac ys.length pc, .slice ar c.rps.length pr, .slice af c.fas.length pf] 30) ∧ W.heap[w.heap.size + 1]? = some (.cells #[.int .i64 th, .int .i64 sa, .int .i64 at_, .int .i64 kn] 33)) := Lib.hid ⟨by omega, fun W hf => ⟨hf.keep (A2 0 (by simp)) (by simp), hf.keep (A2 1 (by simp)) (by simp)⟩⟩
  have HF2 : Hid (Fr [] w ((w.alloc (.cells #[.slice ac ys.length pc, .slice ar c.rps.length pr, .slice af c.fas.length pf] 30)).alloc (.cells #[.int .i64 th, .int .i64 sa, .int .i64 at_, .int .i64 kn] 33))) := Lib.hid F2
  clear A2 F2
  go_enter Tryz.func12, Tryz.ntmps12
  go_wp2_with fail
  refine (rvalid_c _ _ _ ys c _ (HR.out.same HF2.out)).mono ?_
  rintro e w1 ⟨rfl, f1⟩
  have G1 := Lib.hid f1
  clear f1
  cases hv : validB c with
  | false =>
    have HX : Hid (okB c ⟨th, sa, at_, kn⟩ = false) := Lib.hid (by unfold okB; rw [hv]; rfl)
    clear hv
    go_wp2_with fail
    go_ret2
    exact ⟨HF2.out.trans G1.out, .inl ⟨HX.out, rfl⟩⟩
  | true =>
    have HV := Lib.hid hv
    clear hv
    have bk := HB.out.2 _ G1.out
    have b0 := cell_of_blk bk.1 0; have b1 := cell_of_blk bk.1 1; have b2 := cell_of_blk bk.1 2
    have q0 := cell_of_blk bk.2 0; have q1 := cell_of_blk bk.2 1; have q2 := cell_of_blk bk.2 2; have q3 := cell_of_blk bk.2 3
    clear bk
    go_wp2_with fail
    clear b0 b1 b2 q0 q1 q2 q3
    refine (rasks_c ⟨th, sa, at_, kn⟩ _).mono ?_
    rintro e W3 ⟨rfl, f2⟩
    have F3 := Lib.hid (G1.out.trans f2)
    clear f2
    cases hq : asksB ⟨th, sa, at_, kn⟩ with
    | false =>
      have HX : Hid (okB c ⟨th, sa, at_, kn⟩ = false) := Lib.hid (by unfold okB; rw [HV.out, hq]; rfl)
      clear hq
      go_wp2_with fail
      go_ret2
      exact ⟨HF2.out.trans F3.out, .inl ⟨HX.out, rfl⟩⟩
    | true =>
      have HOK : Hid (okB c ⟨th, sa, at_, kn⟩ = true) := Lib.hid (by unfold okB; rw [HV.out, hq]; rfl)
      have hsa : 0 ≤ sa ∧ sa < 20 := by simp only [asksB, Bool.and_eq_true, isInB_iff] at hq; omega
      obtain ⟨n, rfl⟩ := Int.eq_ofNat_of_zero_le hsa.1
      have hn20 : n < 20 := by omega
      clear hq
      have CS := Lib.hid (rso_c _ _ _ ys c ⟨th, n, at_, kn⟩ W3 (HR.out.same (HF2.out.trans F3.out)) HV.out)
      unfold rbV qnV at CS
      simp only at CS
      have bk := HB.out.2 _ F3.out
      have b0 := cell_of_blk bk.1 0; have b1 := cell_of_blk bk.1 1; have b2 := cell_of_blk bk.1 2
      have q0 := cell_of_blk bk.2 0; have q1 := cell_of_blk bk.2 1; have q2 := cell_of_blk bk.2 2; have q3 := cell_of_blk bk.2 3
      clear bk
      go_wp2_with fail
      clear b0 b1 b2 q0 q1 q2 q3
      refine CS.out.mono ?_
      rintro e W4 ⟨rfl, f4⟩
      have F4 := Lib.hid (F3.out.trans f4)
      have hz := heap_alloc_new W4 (.cells (soC (soR c ⟨th, n, at_, kn⟩ 20)) 95)
      have bk := HB.out.2 _ (F4.out.trans (Fr.alloc _ _ (.cells (soC (soR c ⟨th, n, at_, kn⟩ 20)) 95)))
      have q1 := cell_of_blk bk.2 1
      have s0 := cell_of_blk hz n
      rw [soC_get _ hn20] at s0
      have HE := Lib.hid (HF2.out.trans (F4.out.trans (Fr.alloc _ _ (.cells (soC (soR c ⟨th, n, at_, kn⟩ 20)) 95))))
      clear f4 bk CS hz
      rename_i K2 hK2
      refine hK2 _ _ (so_alloc_store _ _ 6 _ (soR c ⟨th, n, at_, kn⟩ 20) rfl rfl rfl rfl rfl rfl (fun _ => rfl) (fun _ => rfl) ?_)
      go_wp2_with fail
      go_ret2
      exact ⟨HE.out, .inr ⟨HOK.out, rfl⟩⟩


end Go.Proofs.YtfidioedjmjddaaGreat
