/-
  dialtoneref26: BentDecision.
-/
import Derived.Test.YtkopnooajikpmaaGreatQL8
import Derived.Test.YtkopnooajikpmaaGreatQFlL
import Derived.Test.YtkopnooajikpmaaGreatQRg
import Derived.Deep.CutBlock
import Derived.Deep.DeepCutAuto
namespace Go.Proofs.YtkopnooajikpmaaGreat
open Go.RowKit Go.Lib

/-- append to an empty slice that has no room: no block changes. -/
theorem wp_append_fresh {P : Program} {w : World} {o : Oper} {a : Act} {K : Act → World → Prop} {Q : Exit → Act → World → Prop} (s x : Operand) (t e : TypeId) (z : Value) (size bytes : Nat)
    (ho : o.op = .call { callee := .builtin .append, args := #[s, x], argTypes := #[t, t] }) (ht : P.underlying t = some (.slice e)) (hinfo : (P.info? e).map (fun i => (i.zero, i.size, i.bytes)) = some (some z, size, bytes)) (hzs : z.cells.size = size) (hsz : 0 < size)
    (g : Nat) (hs : a.eval s = .slice (some ⟨g, 0, none⟩) 0 0) (hg : w.heap[g]? = some (.cells #[] e (0, 0)))
    (sv : Value) (m : Nat) (news : List Value) (hx : a.eval x = sv) (hsrc : SrcAt w sv m news) (hl : news.length = m * size) (h1 : ∀ u, u ∈ news → u.oneCell' = true)
    (h63 : m ≤ 9223372036854775807) (hbytes : m * bytes ≤ 140737488355328)
    (h : ∀ v' w', w'.ownsRow 0 e size v' m news → Fr [] w w' → (∀ b, v'.ownBlock = some b → b = g ∨ w.heap.size ≤ b) → K (a.put o.dst v') w') : o.wp P a w K Q := by
  obtain ⟨i, hi, hz0, hz1, hz2⟩ := info_parts hinfo
  have hown : w.ownsRow 0 e size (.slice (some ⟨g, 0, none⟩) 0 0) 0 [] := ⟨by simp, .inr ⟨g, 0, #[], rfl, Nat.zero_le _, hg, Nat.le_refl _, Nat.zero_le _, by simp, by simp⟩⟩
  have key : ∃ v' w', (Builtin.append_ #[t, t] o.type #[.slice (some ⟨g, 0, none⟩) 0 0, sv]).run P w = .ok v' w' ∧ w'.ownsRow 0 e size v' m news ∧ Fr [] w w' ∧ (∀ b, v'.ownBlock = some b → b = g ∨ w.heap.size ≤ b) := by
    rcases hsrc.form with ⟨rfl, rfl, rfl⟩ | ⟨ad, c, rfl, hc⟩
    · exact ⟨_, w, run_append_owned_none (P := P) (w := w) 0 t o.type e i size ht hi _ 0 [] hown, hown, Fr.refl _ _, fun b hb => .inl (by cases hb; rfl)⟩
    · by_cases hm : m = 0
      · subst hm
        have hn : news = [] := List.eq_nil_of_length_eq_zero (by simpa using hl)
        subst hn
        have hr := run_append_room_cells (P := P) w t o.type e i ht hi g 0 0 0 ad 0 c [] (by simp) (by simp) (by simp) (by omega) (by simp) (by simp)
        exact ⟨_, w, hr, hown, Fr.refl _ _, fun b hb => .inl (by cases hb; rfl)⟩
      · obtain ⟨v', w', hrun, r1, r2⟩ := run_append_arg_grows (P := P) w t o.type e i z size bytes ht hi hz0 hz1 hz2 hzs hsz ⟨g, 0, none⟩ 0 0 [] (by simp) (by simp) ad m c news hl hc (by omega) (by rw [Nat.zero_add]; exact h63) (by rw [Nat.zero_add]; exact hbytes)
        simp only [Nat.zero_add, List.nil_append] at r1
        refine ⟨v', w', hrun, row_base r1, Fr.grown r2 fun k hk => (by cases hk), fun b hb => .inr ?_⟩
        rcases r1.2 with ⟨rfl, _⟩ | ⟨g', _, _, rfl, hbg, _⟩
        · cases hb
        · cases hb; exact hbg
  obtain ⟨v', w', hr, h2, h3, h4⟩ := key
  unfold Oper.wp execOp
  simp only [ho, resolve, invoke, builtin, Sem.run_bind, Sem.run_pure, Result.andThen_ok, List.map_toArray, List.map_cons, List.map_nil, hs, hx, hr]
  exact h v' w' h2 h3 h4

/-- A decision's lists that can be read, and appended to others. -/
structure DdAt (w : World) (vF vP : Value) (F : List Int) (zs : List PrV) : Prop where
  fails : IntsR w vF F
  sl : Sl w vP zs.length (zs.map (·.v))
  src : SrcAt w vP zs.length (zs.map (·.v))
  fds : ∀ z, z ∈ zs → FdAt w z.v z.l
theorem DdAt.same {w w' : World} {vF vP : Value} {F : List Int} {zs : List PrV} (h : DdAt w vF vP F zs) (hf : Fr [] w w') : DdAt w' vF vP F zs :=
  ⟨h.fails.fr hf (by simp), h.sl.same hf, h.src.same hf, fun z hz => (h.fds z hz).same hf⟩
theorem DdAt.one {w : World} {vF vP : Value} {F : List Int} {zs : List PrV} (h : DdAt w vF vP F zs) : ∀ u, u ∈ zs.map (·.v) → u.oneCell' = true := fun u hu => by
  obtain ⟨z, hz, rfl⟩ := List.mem_map.1 hu
  obtain ⟨a, p, hv⟩ := (h.fds z hz).sl.val
  show z.v.oneCell' = true
  rw [hv]
  rfl
/-- What BentDecision returns: a decision that can be read, about as long. -/
def BentD (w : World) (nF nP nl : Nat) (e : Ending) (w' : World) : Prop :=
  Fr [] w w' ∧ ∃ act rule vF vP F zs, e = .returned (dnV act rule vF vP) ∧ DdAt w' vF vP F zs ∧ F.length ≤ nF ∧ zs.length ≤ nP + 1 ∧ ∀ z, z ∈ zs → z.l.length ≤ nl + 1

/-- The decision under way, in the box B. -/
structure BdS (w : World) (B : Nat) (act rule : Int) (vF vP : Value) (F : List Int) (zs : List PrV) (W : World) : Prop where
  fr : Fr [] w W
  hb : w.heap.size ≤ B
  box : W.heap[B]? = some (.cells #[.int .i64 act, .int .i64 rule, vF, vP] 62 (0, 0))
  fails : W.ownsRow 0 3 1 vF F.length (intC F)
  row : W.ownsRow 0 34 1 vP zs.length (zs.map (·.v))
  newF : ∀ g, vF.ownBlock = some g → w.heap.size ≤ g
  newP : ∀ g, vP.ownBlock = some g → w.heap.size ≤ g
theorem BdS.same {w W W' : World} {B : Nat} {act rule : Int} {vF vP : Value} {F : List Int} {zs : List PrV} (h : BdS w B act rule vF vP F zs W) (hf : Fr [] W W') : BdS w B act rule vF vP F zs W' :=
  ⟨h.fr.trans hf, h.hb, hf.keep h.box (by simp), row_fr h.fails hf (by simp), row_fr h.row hf (by simp), h.newF, h.newP⟩

/-- What is known of the values of the region that lays the decision, by their operations. -/
def BdP (N : Nat) (act rule : Int) (F : List Int) (zs : List PrV) (i : Nat) (v : Value) (W : World) : Prop := match i with
  | 4 => ∃ g, v = .slice (some ⟨g, 0, none⟩) 0 0 ∧ W.heap[g]? = some (.cells #[] 3 (0, 0)) ∧ N ≤ g
  | 7 => W.ownsRow 0 3 1 v F.length (intC F) ∧ ∀ g, v.ownBlock = some g → N ≤ g
  | 8 => ∃ g, v = .slice (some ⟨g, 0, none⟩) 0 0 ∧ W.heap[g]? = some (.cells #[] 34 (0, 0)) ∧ N ≤ g
  | 11 => W.ownsRow 0 34 1 v zs.length (zs.map (·.v)) ∧ ∀ g, v.ownBlock = some g → N ≤ g
  | 12 => ∃ u u', v = dnV act rule u u' ∧ (W.ownsRow 0 3 1 u F.length (intC F) ∧ ∀ g, u.ownBlock = some g → N ≤ g) ∧ (W.ownsRow 0 34 1 u' zs.length (zs.map (·.v)) ∧ ∀ g, u'.ownBlock = some g → N ≤ g)
  | 13 => ∃ g, v = .pointer (some ⟨g, 0, none⟩) ∧ W.heap[g]? = some (.cells #[.int .i64 0, .int .i64 0, .slice none 0 0, .slice none 0 0] 62 (0, 0)) ∧ N ≤ g
  | _ => True
theorem BdP.same {N : Nat} {act rule : Int} {F : List Int} {zs : List PrV} {W W' : World} (hf : Fr [] W W') : ∀ (j : Nat) (u : Value), BdP N act rule F zs j u W → BdP N act rule F zs j u W' := by
  intro j u h
  unfold BdP at h ⊢
  split at h
  · obtain ⟨g, h1, h2, h3⟩ := h; exact ⟨g, h1, hf.keep h2 (by simp), h3⟩
  · exact ⟨row_fr h.1 hf (by simp), h.2⟩
  · obtain ⟨g, h1, h2, h3⟩ := h; exact ⟨g, h1, hf.keep h2 (by simp), h3⟩
  · exact ⟨row_fr h.1 hf (by simp), h.2⟩
  · obtain ⟨u, u', h1, h2, h3⟩ := h; exact ⟨u, u', h1, ⟨row_fr h2.1 hf (by simp), h2.2⟩, row_fr h3.1 hf (by simp), h3.2⟩
  · obtain ⟨g, h1, h2, h3⟩ := h; exact ⟨g, h1, hf.keep h2 (by simp), h3⟩
  · trivial

theorem rowZ {w : World} {e : TypeId} {size g n m cap : Nat} {xs : List Value} (h : w.ownsRow 0 e size (.slice (some ⟨g, 0, none⟩) m cap) n xs) (i : Nat) : w.frozen? ⟨g, i, none⟩ = false := by
  rcases h.2 with ⟨h0, _⟩ | ⟨g', cap', cur, hv, r0, hg, _⟩
  · cases h0
  · simp only [Value.slice.injEq, Option.some.injEq, Addr.mk.injEq] at hv
    obtain ⟨⟨rfl, _⟩, _⟩ := hv
    exact free_of_blk hg i
theorem FdAt.fr {w w' : World} {v : Value} {l : List Fd} {S : List Nat} (h : FdAt w v l) (hf : Fr S w w') (hn : ∀ g, v.ownBlock = some g → g ∉ S) : FdAt w' v l := ⟨h.sl.fr hf hn, h.src.fr hf hn⟩
theorem FdAt.nil (w : World) : FdAt w (.slice none 0 0) [] := ⟨Sl.nil _, ⟨.inl ⟨rfl, rfl, rfl⟩⟩⟩
/-- The decision at its end. -/
def BdE (w : World) (B nF nP nl : Nat) (W : World) : Prop :=
  ∃ act rule vF vP F zs, Fr [] w W ∧ W.heap[B]? = some (.cells #[.int .i64 act, .int .i64 rule, vF, vP] 62 (0, 0)) ∧ (∀ W', Fr [w.heap.size + 1] W W' → DdAt W' vF vP F zs) ∧ F.length ≤ nF ∧ zs.length ≤ nP + 1 ∧ ∀ z, z ∈ zs → z.l.length ≤ nl + 1
theorem BdS.at2 {w W : World} {B : Nat} {act rule : Int} {vF vP : Value} {F : List Int} {zs : List PrV} (h : BdS w B act rule vF vP F zs W) (hR : W.heap[w.heap.size + 1]? = some (.cells #[.int .i64 0, .int .i64 0, .slice none 0 0, .slice none 0 0] 62 (0, 0))) (hz : ∀ z, z ∈ zs → ∀ W', Fr [w.heap.size + 1] W W' → FdAt W' z.v z.l) (W' : World) (hf : Fr [w.heap.size + 1] W W') : DdAt W' vF vP F zs := by
  have hF := row_fr h.fails hf (fun g hg hm => by rw [List.mem_singleton] at hm; subst hm; exact row_box h.fails hR (by decide) hg)
  have hP := row_fr h.row hf (fun g hg hm => by rw [List.mem_singleton] at hm; subst hm; exact row_box h.row hR (by decide) hg)
  exact ⟨⟨sl_of_row hF, srcAt_of_row hF⟩, sl_of_row hP, srcAt_of_row hP, fun z hm => hz z hm W' hf⟩
theorem fd_old {w W W' : World} {v : Value} {l : List Fd} (h : FdAt w v l) (hf : Fr [] w W) (hf' : Fr [w.heap.size + 1] W W') : FdAt W' v l := h.same (hf.step hf' (fun i hi => by simp at hi; exact .inr (by omega)))
theorem BdS.done {w W : World} {B nl : Nat} {act rule : Int} {vF vP : Value} {F : List Int} {zs : List PrV} (h : BdS w B act rule vF vP F zs W) (hR : W.heap[w.heap.size + 1]? = some (.cells #[.int .i64 0, .int .i64 0, .slice none 0 0, .slice none 0 0] 62 (0, 0))) (hz : ∀ z, z ∈ zs → FdAt w z.v z.l) (hl : ∀ z, z ∈ zs → z.l.length ≤ nl) : BdE w B F.length zs.length nl W :=
  ⟨act, rule, vF, vP, F, zs, h.fr, h.box, h.at2 hR (fun z hm W' hf => fd_old (hz z hm) h.fr hf), Nat.le_refl _, by omega, fun z hm => by have := hl z hm; omega⟩
/-- A store into the box. -/
theorem BdS.put {w W : World} {B : Nat} {act rule act' rule' : Int} {vF vP vF' vP' : Value} {F F' : List Int} {zs zs' : List PrV} {i : Nat} {u : Value} (h : BdS w B act rule vF vP F zs W) (hr : W.ownsRow 0 3 1 vF' F'.length (intC F')) (hp : W.ownsRow 0 34 1 vP' zs'.length (zs'.map (·.v))) (n1 : ∀ g, vF'.ownBlock = some g → w.heap.size ≤ g) (n2 : ∀ g, vP'.ownBlock = some g → w.heap.size ≤ g)
    (hc : (#[.int .i64 act, .int .i64 rule, vF, vP] : Array Value).setIfInBounds i u = #[.int .i64 act', .int .i64 rule', vF', vP']) : BdS w B act' rule' vF' vP' F' zs' (W.setCell ⟨B, i, none⟩ u) where
  fr := h.fr.step (Fr.setCell (fp := [B]) _ _ (by simp)) (fun i hi => by simp at hi; exact .inr (by have := h.hb; omega))
  hb := h.hb
  box := by rw [heap_setCell_same _ h.box, hc]
  fails := row_fr hr (Fr.setCell (fp := [B]) W (p := ⟨B, i, none⟩) u (by simp)) (fun g hg hm => by rw [List.mem_singleton] at hm; subst hm; exact row_box hr h.box (by decide) hg)
  row := row_fr hp (Fr.setCell (fp := [B]) W (p := ⟨B, i, none⟩) u (by simp)) (fun g hg hm => by rw [List.mem_singleton] at hm; subst hm; exact row_box hp h.box (by decide) hg)
  newF := n1
  newP := n2
/-- A number of the fails is stored. -/
theorem BdS.setF {w W : World} {B g cap : Nat} {act rule : Int} {vP : Value} {F : List Int} {zs : List PrV} (h : BdS w B act rule (.slice (some ⟨g, 0, none⟩) F.length cap) vP F zs W) (k : Nat) (n : Int) (hk : k < F.length) :
    BdS w B act rule (.slice (some ⟨g, 0, none⟩) (F.set k n).length cap) vP (F.set k n) zs (W.setCell ⟨g, k, none⟩ (.int .i64 n)) := by
  have hs : Fr [g] W (W.setCell ⟨g, k, none⟩ (.int .i64 n)) := Fr.setCell _ _ (by simp)
  have hg := h.newF g rfl
  refine ⟨h.fr.step hs (fun i hi => by simp at hi; exact .inr (by omega)), h.hb, ?_, ?_, row_fr h.row hs (fun b hb hm => by rw [List.mem_singleton] at hm; subst hm; exact row_apart h.fails h.row (by decide) rfl hb), fun b hb => by cases hb; exact hg, h.newP⟩
  · rw [List.length_set]
    exact hs.keep h.box (fun hm => by rw [List.mem_singleton] at hm; subst hm; exact row_box h.fails h.box (by decide) rfl)
  · have := row_set h.fails k (.int .i64 n) (by simp [intC]; exact hk)
    rw [List.length_set]
    have e : intC (F.set k n) = (intC F).set k (.int .i64 n) := by simp [intC, List.map_set]
    rw [e]
    exact this
/-- A proof is stored. -/
theorem BdS.setP {w W : World} {B g cap : Nat} {act rule : Int} {vF : Value} {F : List Int} {zs : List PrV} (h : BdS w B act rule vF (.slice (some ⟨g, 0, none⟩) zs.length cap) F zs W) (k : Nat) (z : PrV) (hk : k < zs.length) :
    BdS w B act rule vF (.slice (some ⟨g, 0, none⟩) (zs.set k z).length cap) F (zs.set k z) (W.setCell ⟨g, k, none⟩ z.v) := by
  have hs : Fr [g] W (W.setCell ⟨g, k, none⟩ z.v) := Fr.setCell _ _ (by simp)
  have hg := h.newP g rfl
  refine ⟨h.fr.step hs (fun i hi => by simp at hi; exact .inr (by omega)), h.hb, ?_, row_fr h.fails hs (fun b hb hm => by rw [List.mem_singleton] at hm; subst hm; exact row_apart h.fails h.row (by decide) hb rfl), ?_, h.newF, fun b hb => by cases hb; exact hg⟩
  · rw [List.length_set]
    exact hs.keep h.box (fun hm => by rw [List.mem_singleton] at hm; subst hm; exact row_box h.row h.box (by decide) rfl)
  · have := row_set h.row k z.v (by simpa using hk)
    rw [List.length_set, List.map_set]
    exact this

/-- A proof is added; then the proofs are stored. -/
theorem BdS.addP {w W W' : World} {B n : Nat} {act rule : Int} {vF vP v' : Value} {F : List Int} {zs : List PrV} {z : PrV} {xs : List Value} (h : BdS w B act rule vF vP F zs W) (hr : W'.ownsRow 0 34 1 v' n xs) (hn : n = (zs ++ [z]).length) (hx : xs = (zs ++ [z]).map (·.v)) (hf : Fr vP.ownBlock.toList W W') (hb : v'.ownBlock = vP.ownBlock ∨ v'.ownBlock = some W.heap.size) :
    W'.heap[B]? = some (.cells #[.int .i64 act, .int .i64 rule, vF, vP] 62 (0, 0)) ∧ BdS w B act rule vF v' F (zs ++ [z]) (W'.setCell ⟨B, 3, none⟩ v') := by
  subst hn hx
  have hbox := hf.keep h.box (fun hm => row_box h.row h.box (by decide) (by simpa using hm))
  have hF : W'.ownsRow 0 3 1 vF F.length (intC F) := row_fr h.fails hf (fun g hg hm => row_apart h.fails h.row (by decide) hg (by simpa using hm))
  have hW : BdS w B act rule vF vP F zs W' → True := fun _ => trivial
  clear hW
  have hfr : Fr [] w W' := h.fr.step hf (fun i hi => .inr (h.newP i (by simpa using hi)))
  have hs : Fr [B] W' (W'.setCell ⟨B, 3, none⟩ v') := Fr.setCell _ _ (by simp)
  exact ⟨hbox, hfr.step hs (fun i hi => by simp at hi; exact .inr (by have := h.hb; omega)), h.hb, heap_setCell_same _ hbox,
    row_fr hF hs (fun g hg hm => by rw [List.mem_singleton] at hm; subst hm; exact row_box hF hbox (by decide) hg), row_fr hr hs (fun g hg hm => by rw [List.mem_singleton] at hm; subst hm; exact row_box hr hbox (by decide) hg), h.newF, new_ge hb h.fr.size h.newP⟩
/-- A row's beginning can be read. -/
theorem intsR_take {w : World} {a : Option Addr} {cap : Nat} {F : List Int} (h : w.ownsRow 0 3 1 (.slice a F.length cap) F.length (intC F)) (k : Nat) (hk : k < F.length) : IntsR w (.slice a k cap) (F.take k) := by
  obtain ⟨g, cap', cur, hv, _, hg, r1, r2, r3, r4⟩ : ∃ g cap' cur, Value.slice a F.length cap = .slice (some ⟨g, 0, none⟩) F.length cap' ∧ 0 ≤ g ∧ w.heap[g]? = some (.cells cur 3 (0, 0)) ∧ F.length ≤ cap' ∧ cap' ≤ 9223372036854775807 ∧ cur.size = cap' * 1 ∧ cur.toList.take (F.length * 1) = intC F := by
    rcases h.2 with ⟨_, h0⟩ | ⟨g, cap', cur, hv, h1⟩
    · omega
    · exact ⟨g, cap', cur, hv, h1⟩
  cases hv
  have hl : (F.take k).length = k := by simp; omega
  have hrow : w.ownsRow 0 3 1 (.slice (some ⟨g, 0, none⟩) k cap) k (intC (F.take k)) := ⟨by simp [intC]; omega, .inr ⟨g, cap, cur, rfl, Nat.zero_le _, hg, by omega, r2, r3, by
    have e : intC (F.take k) = (intC F).take k := by simp [intC, List.map_take]
    rw [e, ← r4, List.take_take]
    congr 1
    omega⟩⟩
  have h1 := sl_of_row hrow
  have h2 := srcAt_of_row hrow
  refine ⟨?_, ?_⟩
  · show Sl w _ (F.take k).length _
    rw [hl]; exact h1
  · rw [hl]; exact h2

set_option maxRecDepth 1000000 in
set_option maxHeartbeats 4000000 in
theorem bentD_c (act rule : Int) (vF vP : Value) (F : List Int) (zs : List PrV) (nl : Nat) (how n at_ : Int) (w : World) (h : DdAt w vF vP F zs) (hF : F.length ≤ 1000) (hz : zs.length ≤ 1000) (hl : ∀ z, z ∈ zs → z.l.length ≤ nl) (hnl : nl ≤ 1000) (i1 : I64 how) (i2 : I64 n) (i3 : I64 at_) :
    Calls Tryz.prog 33 #[dnV act rule vF vP, .int .i64 how, .int .i64 n, .int .i64 at_] w (BentD w F.length zs.length nl) := by
  have HS := Lib.hid h
  have HL := Lib.hid hl
  have CH := Lib.hid fun W => pick26_c how 6 W i1 (by omega) (by omega)
  have bh := pickI_bound how 6 (by omega)
  generalize pickI how 6 = hw at *
  obtain ⟨aF, pF, rfl⟩ := h.fails.sl.val
  obtain ⟨aP, pP, rfl⟩ := h.sl.val
  clear h hl
  go_enter Tryz.func33, Tryz.ntmps33
  go_upto_region 1 with fail
  go_cut [9] from 10 (fun s9 W => ∃ (B : Nat) (au av : Option Addr) (pu pv : Nat), s9 = .pointer (some ⟨B, 0, none⟩) ∧ Hid (BdS w B act rule (.slice au F.length pu) (.slice av zs.length pv) F zs W) ∧ Hid (W.heap[w.heap.size + 1]? = some (.cells #[.int .i64 0, .int .i64 0, .slice none 0 0, .slice none 0 0] 62 (0, 0))) ∧ Hid (w.heap.size + 2 ≤ B))
  case first =>
    have AA := alloc2' w (.cells #[.int .i64 act, .int .i64 rule, .slice aF F.length pF, .slice aP zs.length pP] 62) (.cells #[.int .i64 0, .int .i64 0, .slice none 0 0, .slice none 0 0] 62)
    have fd := (Fr.alloc [] w (.cells #[.int .i64 act, .int .i64 rule, .slice aF F.length pF, .slice aP zs.length pP] 62)).trans (Fr.alloc [] _ (.cells #[.int .i64 0, .int .i64 0, .slice none 0 0, .slice none 0 0] 62))
    generalize (w.alloc (.cells #[.int .i64 act, .int .i64 rule, .slice aF F.length pF, .slice aP zs.length pP] 62)).alloc (.cells #[.int .i64 0, .int .i64 0, .slice none 0 0, .slice none 0 0] 62) = W0 at AA fd ⊢
    have hw0 : w.heap.size + 1 < W0.heap.size := blk_lt AA.2
    have S0 := And.intro ((Fr.drew [] W0).keep AA.1 (by simp)) (And.intro ((Fr.drew [] W0).keep AA.2 (by simp)) (fd.trans (Fr.drew [] W0)))
    clear AA fd
    have hl0 : W0.heap.size ≤ W0.drew.heap.size := (Fr.drew [] W0).size
    refine reg_inv (fun W => W.heap[w.heap.size]? = some (.cells #[.int .i64 act, .int .i64 rule, .slice aF F.length pF, .slice aP zs.length pP] 62) ∧ W.heap[w.heap.size + 1]? = some (.cells #[.int .i64 0, .int .i64 0, .slice none 0 0, .slice none 0 0] 62) ∧ Fr [] w W) 14 [0, 1, 2, 3, 5, 6, 9, 10] [(4, []), (7, [4]), (8, []), (11, [8]), (12, [7, 11]), (13, [])] (by kernel_rfl) (by kernel_rfl) (by kernel_rfl) (by kernel_rfl) (by kernel_rfl) ?_
    iterate 8 (refine tk_take (v := ?_) rfl rfl rfl S0 (fun w hS => ?_) ?_; rotate_left; (focus (have s0 := cell_of_blk hS.1 0; have s1 := cell_of_blk hS.1 1; have s2 := cell_of_blk hS.1 2; have s3 := cell_of_blk hS.1 3; go_simp; rfl)); simp only [List.setIfInBounds_toArray, List.set_cons_succ, List.set_cons_zero])
    refine inv_start [(4, 16), (7, 19), (8, 20), (11, 23), (12, 24), (13, 9)] (BdP (w.heap.size + 2) act rule F zs) (by decide) S0 ⟨fun g W hS hD => ?_, fun g W hS hD => ?_, fun g W hS hD => ?_, fun g W hS hD => ?_, fun g W hS hD => ?_, fun g W hS hD => ?_, trivial⟩ (fun g W hS hD => ?_)
    · refine inv_op rfl rfl (fun K hK => ?_)
      simp only [putG, putT, List.setIfInBounds_toArray, List.set_cons_succ, List.set_cons_zero] at hK ⊢
      have fa := Fr.alloc [] W (.cells #[] 3)
      have hn := hS.2.2.size
      go_simp
      exact hK _ _ ⟨fa.keep hS.1 (by simp), fa.keep hS.2.1 (by simp), hS.2.2.trans fa⟩ ⟨_, rfl, heap_alloc_new _ _, by have := blk_lt hS.2.1; omega⟩ (fun j u _ h => h.same fa)
    · obtain ⟨g4, e4, h4, n4⟩ := hD 4 (by simp)
      refine inv_op rfl rfl (fun K hK => ?_)
      simp only [putG, putT, List.setIfInBounds_toArray, List.set_cons_succ, List.set_cons_zero] at hK ⊢
      refine wp_append_fresh (.tmp 16) (.tmp 18) 48 3 _ 1 8 rfl Tryz.underlying48 infoInt rfl (by decide) g4 e4 h4 _ F.length _ rfl (HS.out.fails.src.same hS.2.2) (by simp) (intC_one F) (by omega) (by omega) ?_
      intro v' w' r1 f1 b1
      exact hK v' w' ⟨f1.keep hS.1 (by simp), f1.keep hS.2.1 (by simp), hS.2.2.trans f1⟩ ⟨r1, fun b hb => by
        rcases b1 b hb with rfl | hb
        · exact n4
        · have := blk_lt hS.2.1; omega⟩ (fun j u _ h => h.same f1)
    · refine inv_op rfl rfl (fun K hK => ?_)
      simp only [putG, putT, List.setIfInBounds_toArray, List.set_cons_succ, List.set_cons_zero] at hK ⊢
      have fa := Fr.alloc [] W (.cells #[] 34)
      go_simp
      exact hK _ _ ⟨fa.keep hS.1 (by simp), fa.keep hS.2.1 (by simp), hS.2.2.trans fa⟩ ⟨_, rfl, heap_alloc_new _ _, by have := blk_lt hS.2.1; omega⟩ (fun j u _ h => h.same fa)
    · obtain ⟨g8, e8, h8, n8⟩ := hD 8 (by simp)
      refine inv_op rfl rfl (fun K hK => ?_)
      simp only [putG, putT, List.setIfInBounds_toArray, List.set_cons_succ, List.set_cons_zero] at hK ⊢
      refine wp_append_fresh (.tmp 20) (.tmp 22) 54 34 _ 1 24 rfl Tryz.underlying54 infoFds rfl (by decide) g8 e8 h8 _ zs.length _ rfl (HS.out.src.same hS.2.2) (by simp) HS.out.one (by omega) (by omega) ?_
      intro v' w' r1 f1 b1
      exact hK v' w' ⟨f1.keep hS.1 (by simp), f1.keep hS.2.1 (by simp), hS.2.2.trans f1⟩ ⟨r1, fun b hb => by
        rcases b1 b hb with rfl | hb
        · exact n8
        · have := blk_lt hS.2.1; omega⟩ (fun j u _ h => h.same f1)
    · have h7 := hD 7 (by simp)
      have h11 := hD 11 (by simp)
      refine inv_op rfl rfl (fun K hK => ?_)
      simp only [putG, putT, List.setIfInBounds_toArray, List.set_cons_succ, List.set_cons_zero] at hK ⊢
      simp only [upG, Nat.reduceEqDiff, if_false, if_true] at hK
      clear hD
      generalize g 7 = x7 at *
      generalize g 11 = x11 at *
      obtain ⟨a7, p7, rfl⟩ := (sl_of_row h7.1).val
      obtain ⟨a11, p11, rfl⟩ := (sl_of_row h11.1).val
      go_simp
      exact hK _ _ hS ⟨_, _, rfl, h7, h11⟩ (fun j u _ h => h)
    · refine inv_op rfl rfl (fun K hK => ?_)
      simp only [putG, putT, List.setIfInBounds_toArray, List.set_cons_succ, List.set_cons_zero] at hK ⊢
      have fa := Fr.alloc [] W (.cells #[.int .i64 0, .int .i64 0, .slice none 0 0, .slice none 0 0] 62)
      go_simp
      exact hK _ _ ⟨fa.keep hS.1 (by simp), fa.keep hS.2.1 (by simp), hS.2.2.trans fa⟩ ⟨_, rfl, heap_alloc_new _ _, by have := blk_lt hS.2.1; omega⟩ (fun j u _ h => h.same fa)
    · obtain ⟨u, u', e12, ⟨r7, n7⟩, ⟨r11, n11⟩⟩ := hD (12, [7, 11]) (by simp)
      obtain ⟨B, e13, hB, nB⟩ := hD (13, []) (by simp)
      simp only at e12 e13
      refine inv_fin rfl rfl (fun K hK => ?_)
      simp only [putG, putT, List.setIfInBounds_toArray, List.set_cons_succ, List.set_cons_zero] at hK ⊢
      rw [e12, e13]
      obtain ⟨au, pu, rfl⟩ := (sl_of_row r7).val
      obtain ⟨av, pv, rfl⟩ := (sl_of_row r11).val
      have t0 := cell_of_blk hB 0; have t1 := cell_of_blk hB 1; have t2 := cell_of_blk hB 2; have t3 := cell_of_blk hB 3
      have u0 := free_of_blk hB 0; have u1 := free_of_blk hB 1; have u2 := free_of_blk hB 2; have u3 := free_of_blk hB 3
      go_simp
      try go_upon
      try go_simp
      obtain ⟨KS, FS⟩ := set4 hB (.int .i64 act) (.int .i64 rule) (.slice au F.length pu) (.slice av zs.length pv)
      refine hK _ _ ?_
      clear hK K t0 t1 t2 t3 u0 u1 u2 u3 hD S0
      refine noPanic_normal ?_
      have hfr : Fr [] w (W.setCell ⟨B, 0, none⟩ (.int .i64 act) |>.setCell ⟨B, 1, none⟩ (.int .i64 rule) |>.setCell ⟨B, 2, none⟩ (.slice au F.length pu) |>.setCell ⟨B, 3, none⟩ (.slice av zs.length pv)) := hS.2.2.step FS (fun i hi => by simp at hi; exact .inr (by omega))
      have HB : Hid (BdS w B act rule (.slice au F.length pu) (.slice av zs.length pv) F zs _) := Lib.hid ⟨hfr, by omega, KS, row_fr r7 FS (fun b hb hm => by rw [List.mem_singleton] at hm; subst hm; exact row_box r7 hB (by decide) hb), row_fr r11 FS (fun b hb hm => by rw [List.mem_singleton] at hm; subst hm; exact row_box r11 hB (by decide) hb), fun b hb => by have := n7 b hb; omega, fun b hb => by have := n11 b hb; omega⟩
      have HR := Lib.hid (FS.keep hS.2.1 (by simp; omega))
      have HBn : Hid (w.heap.size + 2 ≤ B) := Lib.hid nB
      go_wp2_with fail
      go_meet
      case rel => exact ⟨B, au, av, pu, pv, rfl, HB, HR, HBn⟩
  case rest =>
    obtain ⟨B, au, av, pu, pv, rfl, HB, HR, HBn⟩ := hcut
    have hBn := HBn.out
    obtain ⟨W1, hW1⟩ : ∃ W, W = wc := ⟨_, rfl⟩
    subst hW1
    rename_i K0 hK0
    refine hK0 _ _ ?_
    clear hK0 K0
    refine wp_seq_k (fun K hK => ?_)
    go_cut [] from 10 (fun W => Hid (BdE w B F.length zs.length nl W) ∧ Hid (W.heap[w.heap.size + 1]? = some (.cells #[.int .i64 0, .int .i64 0, .slice none 0 0, .slice none 0 0] 62 (0, 0))))
    case first =>
      go_wp2_with fail
      refine (CH.out _).mono ?_
      rintro e w1 ⟨rfl, rfl⟩
      have hcase : hw = 0 ∨ hw = 1 ∨ hw = 2 ∨ hw = 3 ∨ hw = 4 ∨ hw = 5 := by omega
      clear bh CH
      have t0 := cell_of_blk HB.out.box 0; have t1 := cell_of_blk HB.out.box 1; have t2 := cell_of_blk HB.out.box 2; have t3 := cell_of_blk HB.out.box 3
      have u0 := free_of_blk HB.out.box 0; have u1 := free_of_blk HB.out.box 1; have u2 := free_of_blk HB.out.box 2; have u3 := free_of_blk HB.out.box 3
      rcases hcase with rfl | rfl | rfl | rfl | rfl | rfl
      · go_wp2_with fail
        have h2 := HB.out.put (i := 0) (act' := n) (u := .int .i64 n) HB.out.fails HB.out.row HB.out.newF HB.out.newP rfl
        have hr := (Fr.setCell (fp := [B]) W1 (p := ⟨B, 0, none⟩) (.int .i64 n) (by simp)).keep HR.out (by simp; omega)
        go_meet
        case rel => exact ⟨Lib.hid (h2.done hr HS.out.fds HL.out), Lib.hid hr⟩
      · go_wp2_with fail
        have h2 := HB.out.put (i := 1) (rule' := n) (u := .int .i64 n) HB.out.fails HB.out.row HB.out.newF HB.out.newP rfl
        have hr := (Fr.setCell (fp := [B]) W1 (p := ⟨B, 1, none⟩) (.int .i64 n) (by simp)).keep HR.out (by simp; omega)
        go_meet
        case rel => exact ⟨Lib.hid (h2.done hr HS.out.fds HL.out), Lib.hid hr⟩
      · by_cases hF0 : F.length = 0
        · have hq : decide (0 < F.length) = false := by simp [hF0]
          clear hF0
          go_wp2_with fail
          go_meet
          case rel => exact ⟨Lib.hid (HB.out.done HR.out HS.out.fds HL.out), HR⟩
        · have hq : decide (0 < F.length) = true := decide_eq_true (by omega)
          have C2 := Lib.hid fun W => pick26_c at_ F.length W i3 (by omega) (by omega)
          have b2 := pickI_bound at_ F.length (by omega)
          generalize pickI at_ F.length = kk at *
          obtain ⟨k, rfl⟩ := Int.eq_ofNat_of_zero_le b2.1
          have hk : k < F.length := by omega
          obtain ⟨g, cap, hv, _⟩ := HB.out.fails.form (by omega)
          cases hv
          go_wp2_with fail
          refine reg_fin (fun W => W.cell? ⟨B, 2, none⟩ = some (.slice (some ⟨g, 0, none⟩) F.length pu)) 9 [0, 1, 2, 3, 4, 5, 7, 6, 8, 9] (by kernel_rfl) (by kernel_rfl) (by kernel_rfl) rfl ?_
          have HBD := Lib.hid (HB.out.same (Fr.drew [] W1))
          have HRD := Lib.hid ((Fr.drew [] W1).keep HR.out (by simp))
          generalize W1.drew = WD at *
          have S0 : WD.cell? ⟨B, 2, none⟩ = some (.slice (some ⟨g, 0, none⟩) F.length pu) := cell_of_blk HBD.out.box 2
          clear t0 t1 t2 t3 u0 u1 u2 u3 hq hF0
          iterate 7 (refine fin_take (v := ?_) rfl rfl rfl rfl S0 (fun w hS => ?_) ?_; rotate_left; (focus (go_simp; rfl)); simp only [List.setIfInBounds_toArray, List.set_cons_succ, List.set_cons_zero])
          refine fin_do rfl rfl rfl (fun K hK => ?_)
          go_simp
          refine (C2.out _).mono ?_
          rintro e w5 ⟨rfl, rfl⟩
          refine hK _ _ S0 ?_
          clear hK K
          try simp only [Act.put, List.setIfInBounds_toArray, List.set_cons_succ, List.set_cons_zero]
          (refine fin_take (v := ?_) rfl rfl rfl rfl S0 (fun w hS => ?_) ?_; rotate_left; (focus (go_simp; rfl)); simp only [List.setIfInBounds_toArray, List.set_cons_succ, List.set_cons_zero])
          have hc1 : WD.cell? ⟨g, k, none⟩ = some (.int .i64 F[k]) := by
            have := HBD.out.fails.cells (g := g) rfl k (.int .i64 F[k]) (by rw [intC, List.getElem?_map, List.getElem?_eq_getElem hk]; rfl)
            rwa [addr_add, Nat.zero_add] at this
          have hz0 := rowZ HBD.out.fails k
          refine fin_last (o := ⟨none, _, _, _, _, _⟩) rfl rfl rfl (fun K hK => ?_)
          go_simp
          try go_upon
          try go_simp
          refine hK _ _ ?_
          clear hK K
          have h2 := HBD.out.setF k n hk
          have hr := (Fr.setCell (fp := [g]) WD (p := ⟨g, k, none⟩) (.int .i64 n) (by simp)).keep HRD.out (by
            intro hm
            rw [List.mem_singleton] at hm
            exact row_box HBD.out.fails HRD.out (by decide) (by rw [← hm]; rfl))
          have h3 := h2.done (nl := nl) hr HS.out.fds HL.out
          rw [List.length_set] at h3
          refine noPanic_normal ?_
          go_wp2_with fail
          go_meet
          case rel => exact ⟨Lib.hid h3, Lib.hid hr⟩
      · by_cases hP0 : zs.length = 0
        · have hq : decide (0 < zs.length) = false := by simp [hP0]
          clear hP0
          go_wp2_with fail
          go_meet
          case rel => exact ⟨Lib.hid (HB.out.done HR.out HS.out.fds HL.out), HR⟩
        · have hq : decide (0 < zs.length) = true := decide_eq_true (by omega)
          have C2 := Lib.hid fun W => pick26_c at_ zs.length W i3 (by omega) (by omega)
          have b2 := pickI_bound at_ zs.length (by omega)
          generalize pickI at_ zs.length = kk at *
          obtain ⟨k, rfl⟩ := Int.eq_ofNat_of_zero_le b2.1
          have hk : k < zs.length := by omega
          obtain ⟨g, cap, hv, _⟩ := HB.out.row.form (by omega)
          cases hv
          go_wp2_with fail
          refine (C2.out _).mono ?_
          rintro e w5 ⟨rfl, rfl⟩
          go_wp2_with fail
          have hnz := HL.out zs[k] (List.getElem_mem hk)
          obtain ⟨z, hz⟩ : ∃ z, zs[k] = z := ⟨_, rfl⟩
          have HZ := Lib.hid hz
          rw [hz] at hnz
          have hzd : FdAt w z.v z.l := HS.out.fds z (by rw [← hz]; exact List.getElem_mem hk)
          clear hz
          obtain ⟨⟨az, pz, hzv⟩, hzd⟩ := And.intro hzd.sl.val hzd
          obtain ⟨zl, zv⟩ := z
          simp only at hzv
          subst hzv
          refine reg_fin (fun W => W.cell? ⟨B, 3, none⟩ = some (.slice (some ⟨g, 0, none⟩) zs.length pv) ∧ W.cell? ⟨g, k, none⟩ = some (.slice az zl.length pz)) 13 [0, 1, 2, 3, 4, 5, 6, 7, 8, 9, 10, 11, 12, 13] (by kernel_rfl) (by kernel_rfl) (by kernel_rfl) rfl ?_
          have HBD := Lib.hid (HB.out.same (Fr.drew [] W1))
          have HRD := Lib.hid ((Fr.drew [] W1).keep HR.out (by simp))
          generalize W1.drew = WD at *
          have hc1 : WD.cell? ⟨g, k, none⟩ = some (.slice az zl.length pz) := by
            have := HBD.out.row.cells (g := g) rfl k (.slice az zl.length pz) (by rw [List.getElem?_map, List.getElem?_eq_getElem hk, HZ.out]; rfl)
            rwa [addr_add, Nat.zero_add] at this
          have S0 := And.intro (show WD.cell? ⟨B, 3, none⟩ = some (.slice (some ⟨g, 0, none⟩) zs.length pv) from cell_of_blk HBD.out.box 3) hc1
          have CB := Lib.hid (bent_own_c (.slice az zl.length pz) zl n at_ how WD (hzd.src.same HBD.out.fr) (by simp only at hnz; omega) i2 i1)
          have HZD := Lib.hid hzd
          clear t0 t1 t2 t3 u0 u1 u2 u3 hq hP0 hc1 hzd
          iterate 11 (refine fin_take (v := ?_) rfl rfl rfl rfl S0 (fun w hS => ?_) ?_; rotate_left; (focus (obtain ⟨s0, s1⟩ := hS; go_simp; rfl)); simp only [List.setIfInBounds_toArray, List.set_cons_succ, List.set_cons_zero])
          refine fin_do rfl rfl rfl (fun K hK => ?_)
          go_simp
          refine CB.out.mono ?_
          rintro e w5 ⟨f5, v5, l5, rfl, h5, hl5, hn5⟩
          have HB5 := Lib.hid (HBD.out.same f5)
          have HR5 := Lib.hid (f5.keep HRD.out (by simp))
          have hgl : g < WD.heap.size := ownsRow_lt HBD.out.row rfl
          have S5 : w5.cell? ⟨B, 3, none⟩ = some (.slice (some ⟨g, 0, none⟩) zs.length pv) ∧ w5.cell? ⟨g, k, none⟩ = some (.slice az zl.length pz) := ⟨cell_of_blk HB5.out.box 3, (World.cell?_of_block (f5.block g hgl (by simp))).trans S0.2⟩
          refine hK _ _ S5 ?_
          clear hK K CB S0
          have S0 := S5
          clear S5
          try simp only [Act.put, List.setIfInBounds_toArray, List.set_cons_succ, List.set_cons_zero]
          (refine fin_take (v := ?_) rfl rfl rfl rfl S0 (fun w hS => ?_) ?_; rotate_left; (focus (obtain ⟨s0, s1⟩ := hS; go_simp; rfl)); simp only [List.setIfInBounds_toArray, List.set_cons_succ, List.set_cons_zero])
          have hz0 := rowZ HB5.out.row k
          have hc1 := S0.2
          obtain ⟨a5, p5, rfl⟩ := h5.sl.val
          refine fin_last (o := ⟨none, _, _, _, _, _⟩) rfl rfl rfl (fun K hK => ?_)
          go_simp
          try go_upon
          try go_simp
          refine hK _ _ ?_
          clear hK K
          have hs : Fr [g] w5 (w5.setCell ⟨g, k, none⟩ (.slice a5 l5.length p5)) := Fr.setCell _ _ (by simp)
          have h2 := HB5.out.setP k ⟨l5, .slice a5 l5.length p5⟩ hk
          have hr := hs.keep HR5.out (by
            intro hm
            rw [List.mem_singleton] at hm
            exact row_box HB5.out.row HR5.out (by decide) (by rw [← hm]; rfl))
          have hE : BdE w B F.length zs.length nl (w5.setCell ⟨g, k, none⟩ (.slice a5 l5.length p5)) := by
            have hlb := HL.out zs[k] (List.getElem_mem hk)
            rw [HZ.out] at hlb
            refine ⟨act, rule, _, _, F, zs.set k ⟨l5, .slice a5 l5.length p5⟩, h2.fr, h2.box, h2.at2 hr (fun z hz W' hf => ?_), Nat.le_refl _, by simp, fun z hz => ?_⟩
            · rcases List.mem_or_eq_of_mem_set hz with hz | rfl
              · exact fd_old (HS.out.fds z hz) h2.fr hf
              · exact (h5.fr hs (fun b hb hm => by rw [List.mem_singleton] at hm; subst hm; have := hn5 b hb; omega)).fr hf (fun b hb hm => by rw [List.mem_singleton] at hm; subst hm; have := hn5 _ hb; have := blk_lt HRD.out; omega)
            · rcases List.mem_or_eq_of_mem_set hz with hz | rfl
              · have := HL.out z hz; omega
              · simp only at hlb ⊢; omega
          refine noPanic_normal ?_
          go_wp2_with fail
          go_meet
          case rel => exact ⟨Lib.hid hE, Lib.hid hr⟩
      · have RA := Lib.hid (row_fr HB.out.row (Fr.alloc [] W1 (.cells #[.slice none 0 0] 34)) (by simp))
        have HA := Lib.hid (HB.out.same (Fr.alloc [] W1 (.cells #[.slice none 0 0] 34)))
        go_wp2_with (first | ((with_reducible refine wpList_of_wp (o := ⟨some 93, _, _, _, _, _⟩) rfl (fun K hK => ?_)); go_must (refine wp_append_src (.tmp 91) (.tmp 92) 54 34 _ 1 24 rfl Tryz.underlying54 infoFds rfl (by decide) (.slice av zs.length pv) zs.length _ rfl RA.out _ 1 _ rfl (srcAt_new W1 #[.slice none 0 0] 34) (by simp) (by simp [Value.oneCell']) (by omega) (by omega) ?_; intro ga cap1 WA r1 f1 b1; have HAP := Lib.hid (HA.out.addP (z := ⟨[], .slice none 0 0⟩) r1 (by simp) (by simp) f1 b1); have FA := Lib.hid f1; have x3 := cell_of_blk HAP.out.1 3; have y3 := free_of_blk HAP.out.1 3; refine hK _ _ ?_; clear hK r1 f1 b1)))
        have hr := (Fr.setCell (fp := [B]) WA (p := ⟨B, 3, none⟩) (.slice ga (zs.length + 1) cap1) (by simp)).keep (FA.out.keep ((Fr.alloc [] W1 (.cells #[.slice none 0 0] 34)).keep HR.out (by simp)) (fun hm => row_box HA.out.row ((Fr.alloc [] W1 (.cells #[.slice none 0 0] 34)).keep HR.out (by simp)) (by decide) (by simpa using hm))) (by simp; omega)
        have hE : BdE w B F.length zs.length nl (WA.setCell ⟨B, 3, none⟩ (.slice ga (zs.length + 1) cap1)) := by
          have h2 := HAP.out.2
          refine ⟨act, rule, _, _, F, zs ++ [⟨[], .slice none 0 0⟩], h2.fr, h2.box, h2.at2 hr (fun z hz W' hf => ?_), Nat.le_refl _, by simp, fun z hz => ?_⟩
          · rcases List.mem_append.1 hz with hz | hz
            · exact fd_old (HS.out.fds z hz) h2.fr hf
            · rw [List.mem_singleton] at hz; subst hz; exact FdAt.nil _
          · rcases List.mem_append.1 hz with hz | hz
            · have := HL.out z hz; omega
            · rw [List.mem_singleton] at hz; subst hz; simp
        go_meet
        case rel => exact ⟨Lib.hid hE, Lib.hid hr⟩
      · have C5 := Lib.hid fun W => pick26_c n 20 W i2 (by omega) (by omega)
        have b5 := pickI_bound n 20 (by omega)
        generalize pickI n 20 = kk at *
        obtain ⟨k, rfl⟩ := Int.eq_ofNat_of_zero_le b5.1
        go_wp2_with fail
        refine (C5.out _).mono ?_
        rintro e w5 ⟨rfl, rfl⟩
        by_cases hk : k < F.length
        · have hq : decide (k < F.length) = true := decide_eq_true hk
          have HK := Lib.hid hk
          obtain ⟨_, _, hv, hpu, hpm⟩ := sl_of_row HB.out.fails
          cases hv
          have hm1 : k ≤ F.length := by omega
          have hm2 : k ≤ pu := by omega
          clear hk hpu hpm
          go_wp2_with fail
          have s1 : Fr [B] W1 (W1.setCell ⟨B, 2, none⟩ (.slice au k pu)) := Fr.setCell _ _ (by simp)
          have s2 : Fr [B] (W1.setCell ⟨B, 2, none⟩ (.slice au k pu)) ((W1.setCell ⟨B, 2, none⟩ (.slice au k pu)).setCell ⟨B, 1, none⟩ (.int .i64 k)) := Fr.setCell _ _ (by simp)
          have s := s1.trans s2
          have hE : BdE w B F.length zs.length nl ((W1.setCell ⟨B, 2, none⟩ (.slice au k pu)).setCell ⟨B, 1, none⟩ (.int .i64 k)) := by
            have hfr := HB.out.fr.step s (fun i hi => by simp at hi; exact .inr (by omega))
            have hrow := row_fr HB.out.row s (fun g hg hm => by rw [List.mem_singleton] at hm; subst hm; exact row_box HB.out.row HB.out.box (by decide) hg)
            refine ⟨act, k, .slice au k pu, _, F.take k, zs, hfr, heap_setCell_same (i := 1) _ (heap_setCell_same (i := 2) _ HB.out.box), fun W' hf => ?_, by simp; omega, by omega, fun z hz => by have := HL.out z hz; omega⟩
            have hF2 := (intsR_take HB.out.fails k HK.out).fr s (fun g hg hm => by rw [List.mem_singleton] at hm; subst hm; exact row_box HB.out.fails HB.out.box (by decide) (by cases au <;> exact hg))
            have hP2 := row_fr hrow hf (fun g hg hm => by rw [List.mem_singleton] at hm; subst hm; exact row_box HB.out.row HR.out (by decide) hg)
            exact ⟨hF2.fr hf (fun g hg hm => by rw [List.mem_singleton] at hm; subst hm; exact row_box HB.out.fails HR.out (by decide) (by cases au <;> exact hg)), sl_of_row hP2, srcAt_of_row hP2, fun z hz => fd_old (HS.out.fds z hz) hfr hf⟩
          have hr := s.keep HR.out (by simp; omega)
          go_meet
          case rel => exact ⟨Lib.hid hE, Lib.hid hr⟩
        · have hq : decide (k < F.length) = false := decide_eq_false hk
          clear hk
          go_wp2_with fail
          go_meet
          case rel => exact ⟨Lib.hid (HB.out.done HR.out HS.out.fds HL.out), HR⟩
    case rest =>
      obtain ⟨hE, hR⟩ := hcut
      refine hK _ _ ?_
      clear hK K HB HR HL HS CH
      obtain ⟨act', rule', vF', vP', F', zs', hfr, hbox, hd, h1, h2, h3⟩ := hE.out
      obtain ⟨aF', pF', rfl⟩ := (hd _ (Fr.refl _ _)).fails.sl.val
      obtain ⟨aP', pP', rfl⟩ := (hd _ (Fr.refl _ _)).sl.val
      have t0 := cell_of_blk hbox 0; have t1 := cell_of_blk hbox 1; have t2 := cell_of_blk hbox 2; have t3 := cell_of_blk hbox 3
      have x0 := cell_of_blk hR.out 0; have x1 := cell_of_blk hR.out 1; have x2 := cell_of_blk hR.out 2; have x3 := cell_of_blk hR.out 3
      have u0 := free_of_blk hR.out 0; have u1 := free_of_blk hR.out 1; have u2 := free_of_blk hR.out 2; have u3 := free_of_blk hR.out 3
      obtain ⟨KS, FS⟩ := set4 hR.out (.int .i64 act') (.int .i64 rule') (.slice aF' F'.length pF') (.slice aP' zs'.length pP')
      have HN := Lib.hid (And.intro h1 (And.intro h2 h3))
      have HF := Lib.hid (hfr.step FS (fun i hi => by simp at hi; exact .inr (by omega)))
      have HD := Lib.hid hd
      have HKS := Lib.hid KS
      have HFS := Lib.hid FS
      clear hbox hd hfr KS FS h1 h2 h3
      go_wp2_with fail
      generalize (((wc.setCell ⟨w.heap.size + 1, 0, none⟩ (.int .i64 act')).setCell ⟨w.heap.size + 1, 1, none⟩ (.int .i64 rule')).setCell ⟨w.heap.size + 1, 2, none⟩ (.slice aF' F'.length pF')).setCell ⟨w.heap.size + 1, 3, none⟩ (.slice aP' zs'.length pP') = W3 at *
      clear t0 t1 t2 t3 x0 x1 x2 x3 u0 u1 u2 u3
      have k0 := cell_of_blk HKS.out 0; have k1 := cell_of_blk HKS.out 1; have k2 := cell_of_blk HKS.out 2; have k3 := cell_of_blk HKS.out 3
      refine bodyPost_ret (by simp [results, Tryz.results33, go_sem, k0, k1, k2, k3]; try rfl) rfl ?_
      exact ⟨HF.out, _, _, _, _, F', zs', rfl, HD.out _ HFS.out, HN.out.1, HN.out.2.1, HN.out.2.2⟩

end Go.Proofs.YtkopnooajikpmaaGreat
