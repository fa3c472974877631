/-
  dialtonelaw08: what Leans and Grows build up: rows of findings, cells beside a row that is appended to.
-/
import Derived.Test.YtfidioedjmjddaaL8m
import Derived.Test.YtfidioedjmjddaaL8n
namespace Go.Proofs.Ytfidioedjmjddaa
open Go.RowKit Go.Lib

theorem Fr.cell {fp : List Nat} {w W : World} {b i : Nat} {v : Value} (h : Fr fp w W) (hc : w.cell? ⟨b, i, none⟩ = some v) (hn : b ∉ fp) : W.cell? ⟨b, i, none⟩ = some v :=
  (World.cell?_of_block (h.block b (World.block_lt_of_cell? w _ hc) hn)).trans hc
theorem idxI_P (l : List Int) (n : Int) : idxI l n = idxP l n := by
  unfold idxI idxP
  split <;> split <;> simp_all

/-- A row of findings that the call has made. -/
structure OF (w : World) (v : Value) (o : List Fd) (wr : World) : Prop where
  fr : Fr [] w wr
  row : FdRow wr v o
  new : ∀ g, v.ownBlock = some g → w.heap.size ≤ g
theorem OF.start (w W : World) (h : Fr [] w W) : OF w (.slice none 0 0) [] W := ⟨h, ⟨rfl, .inl ⟨rfl, rfl⟩⟩, fun g hg => by cases hg⟩
theorem OF.same {w wr W : World} {v : Value} {o : List Fd} (h : OF w v o wr) (hf : Fr [] wr W) : OF w v o W := ⟨h.fr.trans hf, row_fr h.row hf (by simp), h.new⟩
theorem wp_push_fd {w wr : World} {o : Oper} {a : Act} {K : Act → World → Prop} {Q : Exit → Act → World → Prop} (s x : Operand) (ho : o.op = .call { callee := .builtin .append, args := #[s, x], argTypes := #[42, 42] }) (v : Value) (l : List Fd) (X : Fd) (H : OF w v l wr)
    (hs : a.eval s = v) (hx : a.eval x = .slice (some ⟨wr.heap.size, 0, none⟩) 1 1) (hl : l.length ≤ 1000000) (h : ∀ ga cap W', OF w (.slice ga (l.length + 1) cap) (l ++ [X]) W' → K (a.put o.dst (.slice ga (l.length + 1) cap)) W') : o.wp Try.prog a (wr.alloc (.cells #[.int .i64 X.says, .bool X.holds, .int .i64 X.fact, .int .i64 X.cl] 58)) K Q := by
  refine wp_append_src s x 42 58 _ 4 32 ho Try.underlying42 infoFd rfl (by decide) v l.length (l.flatMap fdC) hs (H.same (Fr.alloc _ _ _)).row _ 1 (fdC X) hx (srcAt_new wr #[.int .i64 X.says, .bool X.holds, .int .i64 X.fact, .int .i64 X.cl] 58) rfl (by simp [fdC, Value.oneCell']) (by omega) (by omega) ?_
  intro ga cap W1 r1 f1 b1
  refine h ga cap W1 ⟨(H.fr.trans (Fr.alloc _ _ _)).step f1 (fun i hi => .inr (H.new i (by simpa using hi))), ?_, ?_⟩
  · have e : (l ++ [X]).flatMap fdC = l.flatMap fdC ++ fdC X := by simp
    unfold FdRow
    rw [e, List.length_append]
    exact r1
  · exact new_ge b1 (by have := H.fr.size; simp; omega) H.new

/-- What stays beside a row of a box. -/
theorem BxS.beside {w : World} {b : Nat} {vc vr vf : Value} {ys : List ClV} {c : Rb} {W : World} (h : BxS w b vc vr vf ys c W) : (∀ k, k < w.heap.size ∨ k = b → k ∉ vc.ownBlock.toList) ∧ (∀ k, k < w.heap.size ∨ k = b → k ∉ vr.ownBlock.toList) ∧ (∀ k, k < w.heap.size ∨ k = b → k ∉ vf.ownBlock.toList) := by
  refine ⟨fun k hk hm => ?_, fun k hk hm => ?_, fun k hk hm => ?_⟩
  all_goals
    simp only [Option.mem_toList] at hm
    rcases hk with hk | rfl
  · have := h.rows k (.inl hm); omega
  · exact h.nb (.inl hm)
  · have := h.rows k (.inr (.inl hm)); omega
  · exact h.nb (.inr (.inl hm))
  · have := h.rows k (.inr (.inr hm)); omega
  · exact h.nb (.inr (.inr (.inl hm)))

/-- An ascending list of numbers of facts, as numbers. -/
theorem subs_f {c : Rb} {F C : List Int} (h : Subs c F C) {k : Nat} (hk : k < F.length) : ∃ m : Nat, F[k] = m ∧ ∃ hm : m < c.fas.length, c.fa F[k] = c.fas[m] := by
  have h1 := h.f _ (List.getElem_mem hk)
  obtain ⟨m, hm⟩ := Int.eq_ofNat_of_zero_le h1.1
  have h2 : m < c.fas.length := by omega
  refine ⟨m, hm, h2, ?_⟩
  unfold Rb.fa
  rw [hm, Int.toNat_natCast, List.getD_eq_getElem?_getD, List.getElem?_eq_getElem h2]
  rfl
theorem subs_c {c : Rb} {F C : List Int} (h : Subs c F C) {k : Nat} (hk : k < C.length) : ∃ m : Nat, C[k] = m ∧ ∃ hm : m < c.cls.length, c.cl C[k] = c.cls[m] := by
  have h1 := h.c _ (List.getElem_mem hk)
  obtain ⟨m, hm⟩ := Int.eq_ofNat_of_zero_le h1.1
  have h2 : m < c.cls.length := by omega
  refine ⟨m, hm, h2, ?_⟩
  unfold Rb.cl
  rw [hm, Int.toNat_natCast, List.getD_eq_getElem?_getD, List.getElem?_eq_getElem h2]
  rfl
theorem asc_step {l : List Int} (h : l.Pairwise (· < ·)) {k : Nat} (hk : k + 1 < l.length) : l[k] < l[k + 1] := List.pairwise_iff_getElem.1 h k (k + 1) (by omega) hk (by omega)
theorem map_snoc {α β : Type} (f : α → β) (l : List α) (k : Nat) (hk : k < l.length) : (l.take (k + 1)).map f = (l.take k).map f ++ [f l[k]] := by
  rw [List.take_succ_eq_append_getElem hk, List.map_append]; rfl
/-- The repeals of what is left, so far. -/
def lessR (cs : List Int) (rs : List Rp) : List Rp := (rs.filter fun r => decide (r.cl ∈ cs)).map fun r => ⟨idxP cs r.cl, r.pub, r.frm⟩
theorem lessR_snoc (cs : List Int) (rs : List Rp) (k : Nat) (hk : k < rs.length) : lessR cs (rs.take (k + 1)) = if rs[k].cl ∈ cs then lessR cs (rs.take k) ++ [⟨idxP cs rs[k].cl, rs[k].pub, rs[k].frm⟩] else lessR cs (rs.take k) := by
  unfold lessR
  rw [List.take_succ_eq_append_getElem hk, List.filter_append]
  split
  · rename_i h; simp [h]
  · rename_i h; simp [h]
theorem lessR_len (cs : List Int) (rs : List Rp) (k : Nat) : (lessR cs (rs.take k)).length ≤ k := by
  unfold lessR
  rw [List.length_map]
  refine Nat.le_trans (List.length_filter_le _ _) ?_
  simp; omega
theorem less_i64 {c : Rb} {F C : List Int} (hm : RbOk c) (hs : Subs c F C) (hC : C.length ≤ 100) : RbOk (lessOf c F C) := by
  refine ⟨fun x hx => ?_, fun x hx => ?_, fun x hx => ?_⟩
  · simp only [lessOf, List.mem_map] at hx
    obtain ⟨i, hi, rfl⟩ := hx
    have := hs.c i hi
    exact hm.cls _ (by have : i.toNat < c.cls.length := by omega
                       simp [Rb.cl, this])
  · simp only [lessOf, List.mem_map, List.mem_filter, decide_eq_true_eq] at hx
    obtain ⟨r, ⟨hr, hmem⟩, rfl⟩ := hx
    obtain ⟨i, hi, hil, _⟩ := idxP_mem hmem
    have k := hm.rps r hr
    rw [hi]
    exact ⟨⟨by show (-9223372036854775808 : Int) ≤ (i : Int); omega, by show (i : Int) ≤ 9223372036854775807; omega⟩, k.pub, k.frm⟩
  · simp only [lessOf, List.mem_map] at hx
    obtain ⟨i, hi, rfl⟩ := hx
    have := hs.f i hi
    exact hm.fas _ (by have : i.toNat < c.fas.length := by omega
                       simp [Rb.fa, this])
theorem lessOf_eq (c : Rb) (F C : List Int) : lessOf c F C = ⟨C.map c.cl, lessR C c.rps, F.map c.fa⟩ := rfl
end Go.Proofs.Ytfidioedjmjddaa
