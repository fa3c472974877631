/-
  A clause's terms are replaced; what StatuteExceptions asks, in plain words.
-/
import Derived.Test.YtfidioedjmjddaaL8k
import Derived.Test.YtfidioedjmjddaaStP3
namespace Go.Proofs.Ytfidioedjmjddaa
open Go.RowKit Go.Lib

theorem flat_setG {α : Type} {enc : α → List Value} {K : Nat} (hK : ∀ x, (enc x).length = K) (l : List α) (k j : Nat) (x : α) (u : Value) (hk : k < l.length) (hj : j < K) (hx : (enc l[k]).set j u = enc x) : (l.flatMap enc).set (k * K + j) u = (l.set k x).flatMap enc := by
  induction l generalizing k with
  | nil => simp at hk
  | cons y l ih =>
    cases k with
    | zero =>
      simp only [List.getElem_cons_zero] at hx
      simp only [List.flatMap_cons, List.set_cons_zero, Nat.zero_mul, Nat.zero_add]
      rw [List.set_append_left _ _ (by rw [hK]; exact hj), hx]
    | succ k =>
      simp only [List.getElem_cons_succ] at hx
      simp only [List.flatMap_cons, List.set_cons_succ]
      rw [List.set_append_right _ _ (by rw [hK, Nat.succ_mul]; omega), ← ih k (by simpa using hk) hx]
      congr 2
      rw [hK, Nat.succ_mul]; omega

theorem BxS.setCl {w : World} {b gc pc : Nat} {vr vf u : Value} {ys : List ClV} {c : Rb} {W : World} (h : BxS w b (.slice (some ⟨gc, 0, none⟩) ys.length pc) vr vf ys c W) (k j : Nat) (y : ClV) (hk : k < ys.length) (hj : j < 6) (hy : (clC ys[k]).set j u = clC y)
    (h1 : IntsR W y.vn y.x.needs) (h2 : IntsR W y.vb y.x.bars)
    (hb : ∀ g, y.vn.ownBlock = some g ∨ y.vb.ownBlock = some g → g < W.heap.size ∧ g ≠ b ∧ g ≠ gc ∧ vr.ownBlock ≠ some g ∧ vf.ownBlock ≠ some g) :
    BxS w b (.slice (some ⟨gc, 0, none⟩) ys.length pc) vr vf (ys.set k y) ⟨c.cls.set k y.x, c.rps, c.fas⟩ (W.setCell ⟨gc, k * 6 + j, none⟩ u) := by
  have ho := h.own
  have hf : Fr [gc] W (W.setCell ⟨gc, k * 6 + j, none⟩ u) := Fr.setCell _ _ (by simp)
  have hgb : gc ≠ b := fun e => h.nb (.inl (by rw [e]; rfl))
  have key : ∀ z, z ∈ ys.set k y → IntsR W z.vn z.x.needs ∧ IntsR W z.vb z.x.bars ∧ ∀ g, z.vn.ownBlock = some g ∨ z.vb.ownBlock = some g → g < W.heap.size ∧ g ≠ b ∧ g ≠ gc ∧ vr.ownBlock ≠ some g ∧ vf.ownBlock ≠ some g := fun z hz => by
    rcases List.mem_or_eq_of_mem_set hz with hz | rfl
    · refine ⟨ho.needs z hz, ho.bars z hz, fun g hg => ?_⟩
      obtain ⟨_, k2, k3, k4, k5⟩ := ho.term z hz g hg
      exact ⟨k2, fun e => h.nb (.inr (.inr (.inr ⟨z, hz, e ▸ hg⟩))), fun e => k3 (by rw [e]; rfl), k4, k5⟩
    · exact ⟨h1, h2, hb⟩
  have hr := row_set ho.cls (k * 6 + j) u (by rw [flat_len (enc := clC) (k := 6) (fun _ => rfl)]; omega)
  rw [flat_setG (enc := clC) (K := 6) (fun _ => rfl) ys k j y u hk hj hy] at hr
  refine ⟨h.fr.step hf (fun i hi => .inr (by simp at hi; rw [hi]; exact h.rows gc (.inl rfl))), h.hb, hf.keep h.box (by simpa using hgb.symm), ⟨?_, ?_, ?_, ?_, ?_, ?_, ?_, ho.nc, ho.nr, ho.nf⟩, h.rows, ?_⟩
  · rw [List.map_set, ho.eq]
  · rw [List.length_set]; exact hr
  · exact row_fr ho.rps hf (fun g hg hm => by simp at hm; subst hm; exact (ho.nc g rfl).2.1 hg)
  · exact row_fr ho.fas hf (fun g hg hm => by simp at hm; subst hm; exact (ho.nc g rfl).2.2 hg)
  · exact fun z hz => (key z hz).1.fr hf (fun g hg hm => ((key z hz).2.2 g (.inl hg)).2.2.1 (by simpa using hm))
  · exact fun z hz => (key z hz).2.1.fr hf (fun g hg hm => ((key z hz).2.2 g (.inr hg)).2.2.1 (by simpa using hm))
  · exact fun z hz g hg => by
      obtain ⟨k1, k2, k3, k4, k5⟩ := (key z hz).2.2 g hg
      exact ⟨Nat.zero_le _, Nat.lt_of_lt_of_le k1 hf.size, fun e => k3 (by cases e; rfl), k4, k5⟩
  · rintro (hg | hg | hg | ⟨z, hz, hg⟩)
    · exact h.nb (.inl hg)
    · exact h.nb (.inr (.inl hg))
    · exact h.nb (.inr (.inr (.inl hg)))
    · exact ((key z hz).2.2 b hg).2.1 rfl

theorem BxS.insNeeds {w : World} {b gc pc : Nat} {vr vf vi : Value} {us : List ClV} {c : Rb} {W W' : World} {l' : List Int} {k : Nat} (h : BxS w b (.slice (some ⟨gc, 0, none⟩) us.length pc) vr vf us c W) (hk : k < us.length) (hck : k < c.cls.length) (hx : us[k].x = c.cls[k]) (hf : Fr [] W W') (hI : IntsR W' vi l')
    (hn : ∀ g, vi.ownBlock = some g → (us[k].vn.ownBlock = some g ∨ W.heap.size ≤ g) ∧ g < W'.heap.size) :
    BxS w b (.slice (some ⟨gc, 0, none⟩) us.length pc) vr vf (us.set k ⟨{ c.cls[k] with needs := l' }, vi, us[k].vb⟩) ⟨c.cls.set k { c.cls[k] with needs := l' }, c.rps, c.fas⟩ (W'.setCell ⟨gc, k * 6 + 3, none⟩ vi) := by
  have h' := h.same hf
  have hm := List.getElem_mem hk
  refine h'.setCl k 3 ⟨{ c.cls[k] with needs := l' }, vi, us[k].vb⟩ hk (by omega) (by rw [← hx]; rfl) hI (by rw [← hx]; exact h'.own.bars us[k] hm) (fun g hg => ?_)
  have key : ∀ g, us[k].vn.ownBlock = some g ∨ us[k].vb.ownBlock = some g → g < W.heap.size ∧ g ≠ b ∧ g ≠ gc ∧ vr.ownBlock ≠ some g ∧ vf.ownBlock ≠ some g := fun g hg => by
    obtain ⟨_, k2, k3, k4, k5⟩ := h.own.term _ hm g hg
    exact ⟨k2, fun e => h.nb (.inr (.inr (.inr ⟨_, hm, e ▸ hg⟩))), fun e => k3 (by rw [e]; rfl), k4, k5⟩
  have old : ∀ g, us[k].vn.ownBlock = some g ∨ us[k].vb.ownBlock = some g → g < W'.heap.size ∧ g ≠ b ∧ g ≠ gc ∧ vr.ownBlock ≠ some g ∧ vf.ownBlock ≠ some g := fun g hg => ⟨Nat.lt_of_lt_of_le (key g hg).1 hf.size, (key g hg).2⟩
  have new : ∀ g, vi.ownBlock = some g → g < W'.heap.size ∧ g ≠ b ∧ g ≠ gc ∧ vr.ownBlock ≠ some g ∧ vf.ownBlock ≠ some g := fun g hg => by
    obtain ⟨h1 | h1, h2⟩ := hn g hg
    · exact old g (.inl h1)
    · exact ⟨h2, (fun e => by have := blk_lt h.box; omega), (fun e => by have := ownsRow_lt h.own.cls (g := gc) rfl; omega), (fun e => by have := ownsRow_lt h.own.rps e; omega), (fun e => by have := ownsRow_lt h.own.fas e; omega)⟩
  rcases hg with hg | hg
  · exact new g hg
  · exact old g (.inr hg)
theorem BxS.insBars {w : World} {b gc pc : Nat} {vr vf vi : Value} {us : List ClV} {c : Rb} {W W' : World} {l' : List Int} {k : Nat} (h : BxS w b (.slice (some ⟨gc, 0, none⟩) us.length pc) vr vf us c W) (hk : k < us.length) (hck : k < c.cls.length) (hx : us[k].x = c.cls[k]) (hf : Fr [] W W') (hI : IntsR W' vi l')
    (hn : ∀ g, vi.ownBlock = some g → (us[k].vb.ownBlock = some g ∨ W.heap.size ≤ g) ∧ g < W'.heap.size) :
    BxS w b (.slice (some ⟨gc, 0, none⟩) us.length pc) vr vf (us.set k ⟨{ c.cls[k] with bars := l' }, us[k].vn, vi⟩) ⟨c.cls.set k { c.cls[k] with bars := l' }, c.rps, c.fas⟩ (W'.setCell ⟨gc, k * 6 + 4, none⟩ vi) := by
  have h' := h.same hf
  have hm := List.getElem_mem hk
  refine h'.setCl k 4 ⟨{ c.cls[k] with bars := l' }, us[k].vn, vi⟩ hk (by omega) (by rw [← hx]; rfl) (by rw [← hx]; exact h'.own.needs us[k] hm) hI (fun g hg => ?_)
  have key : ∀ g, us[k].vn.ownBlock = some g ∨ us[k].vb.ownBlock = some g → g < W.heap.size ∧ g ≠ b ∧ g ≠ gc ∧ vr.ownBlock ≠ some g ∧ vf.ownBlock ≠ some g := fun g hg => by
    obtain ⟨_, k2, k3, k4, k5⟩ := h.own.term _ hm g hg
    exact ⟨k2, fun e => h.nb (.inr (.inr (.inr ⟨_, hm, e ▸ hg⟩))), fun e => k3 (by rw [e]; rfl), k4, k5⟩
  have old : ∀ g, us[k].vn.ownBlock = some g ∨ us[k].vb.ownBlock = some g → g < W'.heap.size ∧ g ≠ b ∧ g ≠ gc ∧ vr.ownBlock ≠ some g ∧ vf.ownBlock ≠ some g := fun g hg => ⟨Nat.lt_of_lt_of_le (key g hg).1 hf.size, (key g hg).2⟩
  have new : ∀ g, vi.ownBlock = some g → g < W'.heap.size ∧ g ≠ b ∧ g ≠ gc ∧ vr.ownBlock ≠ some g ∧ vf.ownBlock ≠ some g := fun g hg => by
    obtain ⟨h1 | h1, h2⟩ := hn g hg
    · exact old g (.inr h1)
    · exact ⟨h2, (fun e => by have := blk_lt h.box; omega), (fun e => by have := ownsRow_lt h.own.cls (g := gc) rfl; omega), (fun e => by have := ownsRow_lt h.own.rps e; omega), (fun e => by have := ownsRow_lt h.own.fas e; omega)⟩
  rcases hg with hg | hg
  · exact old g (.inl hg)
  · exact new g hg
theorem all_ins {so : Int → Bool} {l l' : List Int} {n : Int} (h : InsI l n l') (hn : so n = true) : l'.all so = l.all so := by
  rw [Bool.eq_iff_iff, List.all_eq_true, List.all_eq_true]
  constructor
  · exact fun k m hm => k m ((h.mem m).2 (.inl hm))
  · exact fun k m hm => by
      rcases (h.mem m).1 hm with h | h
      · exact k m h
      · rw [h]; exact hn
theorem any_ins {so : Int → Bool} {l l' : List Int} {n : Int} (h : InsI l n l') (hn : so n = false) : l'.any so = l.any so := by
  rw [Bool.eq_iff_iff, List.any_eq_true, List.any_eq_true]
  constructor
  · rintro ⟨m, hm, hs⟩
    rcases (h.mem m).1 hm with h | h
    · exact ⟨m, h, hs⟩
    · rw [h, hn] at hs; cases hs
  · exact fun ⟨m, hm, hs⟩ => ⟨m, (h.mem m).2 (.inl hm), hs⟩
theorem asc_ins {l l' : List Int} {n g : Int} (h : InsI l n l') (hm : TermM l g) (hn : 0 ≤ n ∧ n < g) : ascB l' g = true := by
  simp only [ascB, Bool.and_eq_true, decide_eq_true_eq]
  refine ⟨by have := h.len; have := hm.len; omega, ascGo_of l' (-1) h.asc (fun m hmm => ?_)⟩
  rcases (h.mem m).1 hmm with h | h
  · have := hm.bnd m h; omega
  · omega

theorem getD_set' {α : Type} [Inhabited α] (l : List α) (k : Nat) (x : α) (i : Nat) : (l.set k x).getD i default = if i = k ∧ k < l.length then x else l.getD i default := by
  simp only [List.getD_eq_getElem?_getD, List.getElem?_set]
  by_cases h : k = i
  · subst h
    by_cases h2 : k < l.length
    · simp [h2]
    · simp [h2]
  · have h' : ¬ i = k := fun e => h e.symm
    simp [h, h']

theorem valid_set {c : Rb} {k : Nat} {x : Cl} (hv : validB c = true) (hx : clB x = true) : validB ⟨c.cls.set k x, c.rps, c.fas⟩ = true := by
  simp only [validB, Bool.and_eq_true, List.all_eq_true, List.length_set] at hv ⊢
  obtain ⟨⟨⟨h1, h2⟩, h3⟩, h4⟩ := hv
  refine ⟨⟨⟨h1, fun y hy => ?_⟩, h3⟩, h4⟩
  rcases List.mem_or_eq_of_mem_set hy with hy | rfl
  · exact h2 y hy
  · exact hx
/-- A further need that is so. -/
theorem exc_needs {c : Rb} {q : Qn} (ho : okB c q = true) (hm : MadeOk c) {k : Nat} (hk : k < c.cls.length) {n : Int} (hn : 0 ≤ n ∧ n < c.cls[k].gives) {l' : List Int} (hi : InsI c.cls[k].needs n l') (hs : soB c (factsOf c q) (clausesOf c q) n = true) :
    okB ⟨c.cls.set k { c.cls[k] with needs := l' }, c.rps, c.fas⟩ q = true ∧ decideA ⟨c.cls.set k { c.cls[k] with needs := l' }, c.rps, c.fas⟩ q = decideA c q := by
  have hx := hm.cls c.cls[k] (List.getElem_mem hk)
  have hv : okB ⟨c.cls.set k { c.cls[k] with needs := l' }, c.rps, c.fas⟩ q = true := by
    simp only [okB, Bool.and_eq_true] at ho ⊢
    refine ⟨valid_set ho.1 ?_, ho.2⟩
    have h1 := hx.clB
    simp only [clB, Bool.and_eq_true] at h1 ⊢
    exact ⟨⟨h1.1.1, asc_ins hi hx.needs hn⟩, h1.2⟩
  refine ⟨hv, ExcExt.decided ⟨by simp, rfl, rfl, ?_, ?_, ?_, ?_, ?_, ?_⟩ ho hv⟩
  all_goals
    intro i
    rw [getD_set']
    by_cases h : i = k ∧ k < c.cls.length
    · rw [if_pos h]
      obtain ⟨rfl, _⟩ := h
      have e : c.cls.getD i default = c.cls[i] := by simp [hk]
      first | (rw [e]; done) | (rw [e]; exact all_ins hi hs)
    · rw [if_neg h]
/-- A further exception that is not so. -/
theorem exc_bars {c : Rb} {q : Qn} (ho : okB c q = true) (hm : MadeOk c) {k : Nat} (hk : k < c.cls.length) {n : Int} (hn : 0 ≤ n ∧ n < c.cls[k].gives) {l' : List Int} (hi : InsI c.cls[k].bars n l') (hs : soB c (factsOf c q) (clausesOf c q) n = false) :
    okB ⟨c.cls.set k { c.cls[k] with bars := l' }, c.rps, c.fas⟩ q = true ∧ decideA ⟨c.cls.set k { c.cls[k] with bars := l' }, c.rps, c.fas⟩ q = decideA c q := by
  have hx := hm.cls c.cls[k] (List.getElem_mem hk)
  have hv : okB ⟨c.cls.set k { c.cls[k] with bars := l' }, c.rps, c.fas⟩ q = true := by
    simp only [okB, Bool.and_eq_true] at ho ⊢
    refine ⟨valid_set ho.1 ?_, ho.2⟩
    have h1 := hx.clB
    simp only [clB, Bool.and_eq_true] at h1 ⊢
    exact ⟨h1.1, asc_ins hi hx.bars hn⟩
  refine ⟨hv, ExcExt.decided ⟨by simp, rfl, rfl, ?_, ?_, ?_, ?_, ?_, ?_⟩ ho hv⟩
  all_goals
    intro i
    rw [getD_set']
    by_cases h : i = k ∧ k < c.cls.length
    · rw [if_pos h]
      obtain ⟨rfl, _⟩ := h
      have e : c.cls.getD i default = c.cls[i] := by simp [hk]
      first | (rw [e]; done) | (rw [e]; exact any_ins hi hs)
    · rw [if_neg h]
theorem RbOk.addRp {c : Rb} (h : RbOk c) {k p f : Int} (h1 : I64 k) (h2 : I64 p) (h3 : I64 f) : RbOk ⟨c.cls, c.rps ++ [⟨k, p, f⟩], c.fas⟩ := ⟨h.cls, fun x hx => by
    rcases List.mem_append.1 hx with hx | hx
    · exact h.rps x hx
    · simp only [List.mem_singleton] at hx; subst hx; exact ⟨h1, h2, h3⟩, h.fas⟩
theorem RbOk.set {c : Rb} (h : RbOk c) {k : Nat} {x : Cl} (hx : ClOk x) : RbOk ⟨c.cls.set k x, c.rps, c.fas⟩ := ⟨fun y hy => by
    rcases List.mem_or_eq_of_mem_set hy with hy | rfl
    · exact h.cls y hy
    · exact hx, h.rps, h.fas⟩
/-- A repeal of a later second. -/
theorem exc_late {c : Rb} {q : Qn} (hm : MadeOk c) (hq : AskM q) {k p f : Int} (hk : 0 ≤ k ∧ k < c.cls.length) (hp : 0 ≤ p ∧ p < 100) (hf : q.at_ < f ∧ f ≤ 200) :
    okB ⟨c.cls, c.rps ++ [⟨k, p, f⟩], c.fas⟩ q = true ∧ decideA ⟨c.cls, c.rps ++ [⟨k, p, f⟩], c.fas⟩ q = decideA c q := by
  have hv : okB ⟨c.cls, c.rps ++ [⟨k, p, f⟩], c.fas⟩ q = true := by
    have h0 := ok_of hm hq
    have hat := hq.at_
    have hnr := hm.nr
    simp only [okB, validB, Bool.and_eq_true, decide_eq_true_eq, List.all_eq_true, List.length_append] at h0 ⊢
    obtain ⟨⟨⟨⟨⟨⟨h1, h2⟩, h3⟩, h4⟩, h5⟩, h6⟩, h7⟩ := h0
    refine ⟨⟨⟨⟨⟨⟨h1, by simp; omega⟩, h3⟩, h4⟩, fun x hx => ?_⟩, h6⟩, h7⟩
    rcases List.mem_append.1 hx with hx | hx
    · exact h5 x hx
    · simp only [List.mem_singleton] at hx
      subst hx
      simp only [rpB, secB, isInB, Bool.and_eq_true, decide_eq_true_eq]
      omega
  refine ⟨hv, PastExt.decided ⟨⟨[], by simp, by simp⟩, ⟨_, rfl, fun r hr => ?_⟩, ⟨[], by simp, by simp⟩⟩ (ok_of hm hq) hv⟩
  simp only [List.mem_singleton] at hr
  subst hr
  exact .inr hf.1

end Go.Proofs.Ytfidioedjmjddaa
