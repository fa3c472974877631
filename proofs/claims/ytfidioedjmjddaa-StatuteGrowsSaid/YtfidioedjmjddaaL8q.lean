/-
  dialtonelaw08: rules without exceptions; what StatuteGrows asks, in plain words.
-/
import Derived.Test.YtfidioedjmjddaaL8p
namespace Go.Proofs.Ytfidioedjmjddaa
open Go.RowKit Go.Lib

def nbC (x : Cl) : Cl := { x with bars := [] }
def nbV (y : ClV) : ClV := ⟨nbC y.x, y.vn, .slice none 0 0⟩
theorem MadeOk.nb {c : Rb} (h : MadeOk c) : MadeOk ⟨c.cls.map nbC, c.rps, c.fas⟩ := by
  refine ⟨by simpa using h.nc, h.nr, h.nf, fun x hx => ?_, fun x hx => by simpa using h.rps x hx, h.fas⟩
  simp only [List.mem_map] at hx
  obtain ⟨y, hy, rfl⟩ := hx
  have k := h.cls y hy
  exact ⟨k.pub, k.f, k.gives, k.needs, ⟨by simp [nbC], by simp [nbC], by simp [nbC]⟩⟩
theorem nb_set {α : Type} (f : α → α) (l : List α) (k : Nat) (hk : k < l.length) : ((l.take k).map f ++ l.drop k).set k (f l[k]) = (l.take (k + 1)).map f ++ l.drop (k + 1) := by
  have hl : ((l.take k).map f).length = k := by simp; omega
  rw [List.set_append_right _ _ (by rw [hl]; exact Nat.le_refl _), hl, Nat.sub_self, List.drop_eq_getElem_cons hk, List.set_cons_zero, map_snoc f l k hk, List.append_assoc]
  rfl
theorem nb_get {α : Type} (f : α → α) (l : List α) (k : Nat) (hk : k < l.length) (h : k < ((l.take k).map f ++ l.drop k).length) : ((l.take k).map f ++ l.drop k)[k] = l[k] := by
  have hl : ((l.take k).map f).length = k := by simp; omega
  rw [List.getElem_append_right (by rw [hl]; exact Nat.le_refl _), List.getElem_drop]
  congr 1
  rw [hl]; omega
theorem nb_len {α : Type} (f : α → α) (l : List α) (k : Nat) (hk : k ≤ l.length) : ((l.take k).map f ++ l.drop k).length = l.length := by simp; omega

theorem row_free {w : World} {e : TypeId} {size g n m cap : Nat} {xs : List Value} (h : w.ownsRow 0 e size (.slice (some ⟨g, 0, none⟩) m cap) n xs) (i : Nat) : w.frozen? ⟨g, i, none⟩ = false := by
  rcases h.2 with ⟨h0, _⟩ | ⟨g', cap', cur, hv, r0, hg, _⟩
  · cases h0
  · simp only [Value.slice.injEq, Option.some.injEq, Addr.mk.injEq] at hv
    obtain ⟨⟨rfl, _⟩, _⟩ := hv
    exact free_of_blk hg i
theorem BxS.setNb {w : World} {b gc pc : Nat} {vr vf : Value} {ys : List ClV} {c : Rb} {W : World} (k : Nat) (hk : k < ys.length) (hx : c.cls = ys.map (·.x))
    (h : BxS w b (.slice (some ⟨gc, 0, none⟩) ys.length pc) vr vf ((ys.take k).map nbV ++ ys.drop k) ⟨(c.cls.take k).map nbC ++ c.cls.drop k, c.rps, c.fas⟩ W) :
    BxS w b (.slice (some ⟨gc, 0, none⟩) ys.length pc) vr vf ((ys.take (k + 1)).map nbV ++ ys.drop (k + 1)) ⟨(c.cls.take (k + 1)).map nbC ++ c.cls.drop (k + 1), c.rps, c.fas⟩ (W.setCell ⟨gc, k * 6 + 4, none⟩ (.slice none 0 0)) := by
  have hl := nb_len nbV ys k (by omega)
  have hkc : k < c.cls.length := by rw [hx, List.length_map]; exact hk
  have hkz : k < ((ys.take k).map nbV ++ ys.drop k).length := by omega
  have hg := nb_get nbV ys k hk hkz
  have hm := List.getElem_mem hkz
  have e1 := nb_set nbV ys k hk
  have e2 := nb_set nbC c.cls k hkc
  have e3 : (nbV ys[k]).x = nbC c.cls[k] := by simp [nbV, hx]
  rw [hg] at hm
  rw [← hl] at h ⊢
  have key := h.own.term _ hm
  have hn := h.own.needs _ hm
  have r := h.setCl (u := .slice none 0 0) k 4 (nbV ys[k]) hkz (by omega) (by rw [hg]; rfl) hn ⟨Sl.nil _, ⟨.inl ⟨rfl, rfl, rfl⟩⟩⟩ (fun g hgg => by
    rcases hgg with hgg | hgg
    · obtain ⟨_, k2, k3, k4, k5⟩ := key g (.inl hgg)
      exact ⟨k2, fun e => h.nb (.inr (.inr (.inr ⟨_, hm, .inl (e ▸ hgg)⟩))), fun e => k3 (by rw [e]; rfl), k4, k5⟩
    · cases hgg)
  rw [e1, e3, e2] at r
  exact r

/-- The rules and the question, whatever the rows' age. -/
structure LawG (w : World) (bc bq : Nat) (vc vr vf : Value) (ys : List ClV) (c : Rb) (q : Qn) (W : World) : Prop where
  fr : Fr [] w W
  cbox : W.heap[bc]? = some (.cells #[vc, vr, vf] 32 (0, 0))
  qbox : W.heap[bq]? = some (.cells #[.int .i64 q.thing, .int .i64 q.says, .int .i64 q.at_, .int .i64 q.known] 40 (0, 0))
  own : RbOwn 0 W vc vr vf ys c
  made : MadeOk c
  ok : okB c q = true
theorem LawG.same {w : World} {bc bq : Nat} {vc vr vf : Value} {ys : List ClV} {c : Rb} {q : Qn} {W W' : World} (h : LawG w bc bq vc vr vf ys c q W) (hf : Fr [] W W') : LawG w bc bq vc vr vf ys c q W' :=
  ⟨h.fr.trans hf, hf.keep h.cbox (by simp), hf.keep h.qbox (by simp), h.own.same hf, h.made, h.ok⟩
theorem LawG.at_ {w : World} {bc bq : Nat} {vc vr vf : Value} {ys : List ClV} {c : Rb} {q : Qn} {W : World} (h : LawG w bc bq vc vr vf ys c q W) : RbAt W vc vr vf ys c := h.own.at_ h.made.ok
theorem LawG.cells {w : World} {bc bq : Nat} {vc vr vf : Value} {ys : List ClV} {c : Rb} {x0 x1 x2 x3 : Int} {W : World} (h : LawG w bc bq vc vr vf ys c ⟨x0, x1, x2, x3⟩ W) :
    (W.cell? ⟨bc, 0, none⟩ = some vc ∧ W.cell? ⟨bc, 1, none⟩ = some vr ∧ W.cell? ⟨bc, 2, none⟩ = some vf) ∧ W.cell? ⟨bq, 0, none⟩ = some (.int .i64 x0) ∧ W.cell? ⟨bq, 1, none⟩ = some (.int .i64 x1) ∧ W.cell? ⟨bq, 2, none⟩ = some (.int .i64 x2) ∧ W.cell? ⟨bq, 3, none⟩ = some (.int .i64 x3) :=
  ⟨⟨cell_of_blk h.cbox 0, cell_of_blk h.cbox 1, cell_of_blk h.cbox 2⟩, cell_of_blk h.qbox 0, cell_of_blk h.qbox 1, cell_of_blk h.qbox 2, cell_of_blk h.qbox 3⟩

theorem grow_mono {c d : Rb} {q : Qn} {E : List Cl} {E' : List Fa} (h1 : d.cls = c.cls ++ E) (h2 : d.rps = c.rps) (h3 : d.fas = c.fas ++ E') (nb : ∀ x, x ∈ c.cls → x.bars = []) (hc : okB c q = true) (hd : okB d q = true) (h : decideA c q = true) : decideA d q = true := by
  have v1 : validB c = true := by simp only [okB, Bool.and_eq_true] at hc; exact hc.1
  have v2 : validB d = true := by simp only [okB, Bool.and_eq_true] at hd; exact hd.1
  have hs : 0 ≤ q.says := by
    simp only [okB, asksB, Bool.and_eq_true, isInB_iff] at hc; exact hc.2.1.1.2.1
  refine so_mono (good_of_valid v1) (good_of_valid v2) (fun i hi => ?_) (fun i hi => ?_) (fun i hi => ?_) _ hs h
  · obtain ⟨j, hj, hp, rfl⟩ := pickN_mem.1 hi
    refine ⟨j, pickN_mem.2 ⟨j, by rw [h3, List.length_append]; omega, by rw [h3, getD_left hj]; exact hp, rfl⟩, ?_⟩
    simp only [Rb.fa, Int.toNat_natCast, h3, getD_left hj]
  · obtain ⟨j, hj, hp, rfl⟩ := pickN_mem.1 hi
    refine ⟨j, pickN_mem.2 ⟨j, by rw [h1, List.length_append]; omega, ?_, rfl⟩, ?_⟩
    · unfold rulesB at hp ⊢
      rw [h1, h2, getD_left hj]
      exact hp
    · simp only [Rb.cl, Int.toNat_natCast, h1, getD_left hj]
  · obtain ⟨j, hj, _, rfl⟩ := pickN_mem.1 hi
    exact nb _ (by simp [Rb.cl, hj])
theorem less_mono {c : Rb} {p : Qn} {F C : List Int} (hs : Subs c F C) (nb : ∀ x, x ∈ c.cls → x.bars = []) (hc : okB c p = true) (h : decideA (lessOf c F C) p = true) : decideA c p = true := by
  have v1 : validB c = true := by simp only [okB, Bool.and_eq_true] at hc; exact hc.1
  have h0 : 0 ≤ p.says := by
    simp only [okB, asksB, Bool.and_eq_true, isInB_iff] at hc; exact hc.2.1.1.2.1
  refine so_mono (good_of_valid (less_valid hs v1)) (good_of_valid v1) (fun i hi => ?_) (fun i hi => ?_) (fun i hi => ?_) _ h0 h
  · obtain ⟨k, hk, _, m1, m2⟩ := less_facts_mem hs hi
    exact ⟨_, m1, by rw [m2]⟩
  · obtain ⟨k, hk, _, m1, m2⟩ := less_clauses_mem hs hi
    exact ⟨_, m1, m2.symm⟩
  · obtain ⟨k, hk, _, m1, m2⟩ := less_clauses_mem hs hi
    rw [m2]
    have := cl_mem_of m1
    exact nb _ (by have : (C[k]).toNat < c.cls.length := by omega
                   simp [Rb.cl, this])
theorem less_ok {c : Rb} {p : Qn} {F C : List Int} (hs : Subs c F C) (hc : okB c p = true) : okB (lessOf c F C) p = true := by
  simp only [okB, Bool.and_eq_true] at hc ⊢
  exact ⟨less_valid hs hc.1, hc.2⟩
/-- The rules, with others behind them. -/
theorem grown_ok {c m : Rb} {q : Qn} (hc : MadeOk c) (hm : MadeOk m) (hq : AskM q) : okB ⟨c.cls ++ m.cls.map nbC, c.rps, c.fas ++ m.fas⟩ q = true ∧ RbOk ⟨c.cls ++ m.cls.map nbC, c.rps, c.fas ++ m.fas⟩ := by
  have hv := hc.valid; have hv2 := hm.nb.valid; have hasks := hq.asks
  have n1 := hc.nc; have n2 := hm.nc; have n3 := hc.nf; have n4 := hm.nf; have n5 := hc.nr
  have r1 := hc.ok; have r2 := hm.nb.ok
  constructor
  · simp only [okB, validB, Bool.and_eq_true, decide_eq_true_eq, List.all_eq_true] at hv hv2 ⊢
    refine ⟨⟨⟨⟨⟨⟨by simp; omega, by simpa using (by omega : c.rps.length ≤ 10)⟩, by simp; omega⟩, fun x hx => ?_⟩, fun x hx => ?_⟩, fun x hx => ?_⟩, hasks⟩
    · rcases List.mem_append.1 hx with hx | hx
      · exact hv.1.1.2 x hx
      · exact hv2.1.1.2 x hx
    · have k := hv.1.2 x hx
      simp only [rpB, isInB, Bool.and_eq_true, decide_eq_true_eq, List.length_append] at k ⊢
      exact ⟨⟨⟨k.1.1.1, by omega⟩, k.1.2⟩, k.2⟩
    · rcases List.mem_append.1 hx with hx | hx
      · exact hv.2 x hx
      · exact hv2.2 x hx
  · refine ⟨fun x hx => ?_, r1.rps, fun x hx => ?_⟩
    · rcases List.mem_append.1 hx with hx | hx
      · exact r1.cls x hx
      · exact r2.cls x hx
    · rcases List.mem_append.1 hx with hx | hx
      · exact r1.fas x hx
      · exact r2.fas x hx

/-- The inner loop over the clauses' numbers. -/
def lessK (cs : List Int) (r : Rp) (k : Nat) : List Rp := if r.cl ∈ cs.take k then [⟨idxP cs r.cl, r.pub, r.frm⟩] else []
theorem lessK_full (cs : List Int) (rs : List Rp) (k : Nat) (hk : k < rs.length) : lessR cs (rs.take k) ++ lessK cs rs[k] cs.length = lessR cs (rs.take (k + 1)) := by
  rw [lessR_snoc cs rs k hk]
  unfold lessK
  rw [List.take_length]
  split <;> simp
theorem lessK_len (cs : List Int) (r : Rp) (k : Nat) : (lessK cs r k).length ≤ 1 := by unfold lessK; split <;> simp
theorem lessK_yes {cs : List Int} (ha : cs.Pairwise (· < ·)) {r : Rp} {k : Nat} (hk : k < cs.length) (he : cs[k] = r.cl) : lessK cs r k = [] ∧ lessK cs r (k + 1) = [⟨(k : Int), r.pub, r.frm⟩] := by
  have hmem : r.cl ∈ cs := he ▸ List.getElem_mem hk
  obtain ⟨i, hi, hil, e⟩ := idxP_mem hmem
  have : i = k := asc_inj ha hil hk (e.trans he.symm)
  subst this
  unfold lessK
  constructor
  · rw [if_neg]
    intro hm
    obtain ⟨j, hj, hje⟩ := List.mem_take_iff_getElem.1 hm
    have : j = i := asc_inj ha (by omega) hil (hje.trans he.symm)
    omega
  · rw [if_pos, hi]
    rw [List.take_succ_eq_append_getElem hk, he]
    simp
theorem lessK_no {cs : List Int} {r : Rp} {k : Nat} (hk : k < cs.length) (he : cs[k] ≠ r.cl) : lessK cs r (k + 1) = lessK cs r k := by
  unfold lessK
  rw [List.take_succ_eq_append_getElem hk]
  have : (r.cl ∈ cs.take k ++ [cs[k]]) ↔ r.cl ∈ cs.take k := by
    simp only [List.mem_append, List.mem_singleton]
    exact ⟨fun h => h.elim id (fun h => absurd h.symm he), .inl⟩
  simp only [this]
end Go.Proofs.Ytfidioedjmjddaa
