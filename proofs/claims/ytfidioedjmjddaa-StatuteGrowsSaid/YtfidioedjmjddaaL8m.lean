/-
  What StatutePast adds to the rules, in plain words.
-/
import Derived.Test.YtfidioedjmjddaaL8l
import Derived.Test.YtfidioedjmjddaaL8h
import Derived.Test.YtfidioedjmjddaaReg3
namespace Go.Proofs.Ytfidioedjmjddaa
open Go.RowKit Go.Lib

structure PastCl (q : Qn) (x : Cl) : Prop where
  ok : clB x = true
  i64 : ClOk x
  out : q.known < x.pub ∨ hasB x.f x.t q.at_ = false
structure PastRp (n : Nat) (q : Qn) (x : Rp) : Prop where
  ok : rpB n x = true
  i64 : RpOk x
  out : q.known < x.pub ∨ q.at_ < x.frm
structure PastFa (q : Qn) (x : Fa) : Prop where
  ok : faB x = true
  i64 : FaOk x
  out : statesB x q = false
/-- d is c with i clauses, j repeals and m facts behind, which are out of question. -/
structure PastM (c : Rb) (q : Qn) (i j m : Nat) (d : Rb) : Prop where
  cls : ∃ E, d.cls = c.cls ++ E ∧ E.length = i ∧ ∀ x, x ∈ E → PastCl q x
  rps : ∃ E, d.rps = c.rps ++ E ∧ E.length = j ∧ ∀ x, x ∈ E → PastRp c.cls.length q x
  fas : ∃ E, d.fas = c.fas ++ E ∧ E.length = m ∧ ∀ x, x ∈ E → PastFa q x
theorem PastM.start (c : Rb) (q : Qn) : PastM c q 0 0 0 c := ⟨⟨[], by simp⟩, ⟨[], by simp⟩, ⟨[], by simp⟩⟩
theorem PastM.addCl {c : Rb} {q : Qn} {i j m : Nat} {d : Rb} {x : Cl} (h : PastM c q i j m d) (hx : PastCl q x) : PastM c q (i + 1) j m ⟨d.cls ++ [x], d.rps, d.fas⟩ := by
  obtain ⟨E, h1, h2, h3⟩ := h.cls
  refine ⟨⟨E ++ [x], by simp [h1], by simp [h2], fun y hy => ?_⟩, h.rps, h.fas⟩
  rcases List.mem_append.1 hy with hy | hy
  · exact h3 y hy
  · simp only [List.mem_singleton] at hy; subst hy; exact hx
theorem PastM.addRp {c : Rb} {q : Qn} {i j m : Nat} {d : Rb} {x : Rp} (h : PastM c q i j m d) (hx : PastRp c.cls.length q x) : PastM c q i (j + 1) m ⟨d.cls, d.rps ++ [x], d.fas⟩ := by
  obtain ⟨E, h1, h2, h3⟩ := h.rps
  refine ⟨h.cls, ⟨E ++ [x], by simp [h1], by simp [h2], fun y hy => ?_⟩, h.fas⟩
  rcases List.mem_append.1 hy with hy | hy
  · exact h3 y hy
  · simp only [List.mem_singleton] at hy; subst hy; exact hx
theorem PastM.addFa {c : Rb} {q : Qn} {i j m : Nat} {d : Rb} {x : Fa} (h : PastM c q i j m d) (hx : PastFa q x) : PastM c q i j (m + 1) ⟨d.cls, d.rps, d.fas ++ [x]⟩ := by
  obtain ⟨E, h1, h2, h3⟩ := h.fas
  refine ⟨h.cls, h.rps, ⟨E ++ [x], by simp [h1], by simp [h2], fun y hy => ?_⟩⟩
  rcases List.mem_append.1 hy with hy | hy
  · exact h3 y hy
  · simp only [List.mem_singleton] at hy; subst hy; exact hx
theorem PastM.ext {c : Rb} {q : Qn} {i j m : Nat} {d : Rb} (h : PastM c q i j m d) : PastExt c d q := by
  obtain ⟨E1, a1, _, a3⟩ := h.cls
  obtain ⟨E2, b1, _, b3⟩ := h.rps
  obtain ⟨E3, c1, _, c3⟩ := h.fas
  exact ⟨⟨E1, a1, fun x hx => (a3 x hx).out⟩, ⟨E2, b1, fun x hx => (b3 x hx).out⟩, ⟨E3, c1, fun x hx => (c3 x hx).out⟩⟩
theorem PastM.lens {c : Rb} {q : Qn} {i j m : Nat} {d : Rb} (h : PastM c q i j m d) : d.cls.length = c.cls.length + i ∧ d.rps.length = c.rps.length + j ∧ d.fas.length = c.fas.length + m := by
  obtain ⟨E1, a1, a2, _⟩ := h.cls
  obtain ⟨E2, b1, b2, _⟩ := h.rps
  obtain ⟨E3, c1, c2, _⟩ := h.fas
  rw [a1, b1, c1]
  simp [a2, b2, c2]
theorem PastM.okB {c : Rb} {q : Qn} {i j m : Nat} {d : Rb} (h : PastM c q i j m d) (hm : MadeOk c) (hq : AskM q) (hi : i ≤ 8) (hj : j ≤ 3) (hk : m ≤ 8) : okB d q = true := by
  have h0 := hm.valid
  obtain ⟨l1, l2, l3⟩ := h.lens
  obtain ⟨E1, a1, a2, a3⟩ := h.cls
  obtain ⟨E2, b1, b2, b3⟩ := h.rps
  obtain ⟨E3, c1, c2, c3⟩ := h.fas
  have n1 := hm.nc; have n2 := hm.nr; have n3 := hm.nf
  simp only [Go.Proofs.Ytfidioedjmjddaa.okB, validB, Bool.and_eq_true, decide_eq_true_eq, List.all_eq_true] at h0 ⊢
  obtain ⟨⟨⟨⟨⟨_, _⟩, _⟩, h4⟩, h5⟩, h6⟩ := h0
  refine ⟨⟨⟨⟨⟨⟨by omega, by omega⟩, by omega⟩, fun x hx => ?_⟩, fun x hx => ?_⟩, fun x hx => ?_⟩, hq.asks⟩
  · rw [a1] at hx
    rcases List.mem_append.1 hx with hx | hx
    · exact h4 x hx
    · exact (a3 x hx).ok
  · rw [b1] at hx
    have key : rpB c.cls.length x = true := by
      rcases List.mem_append.1 hx with hx | hx
      · exact h5 x hx
      · exact (b3 x hx).ok
    simp only [rpB, isInB, Bool.and_eq_true, decide_eq_true_eq] at key ⊢
    obtain ⟨⟨⟨k1, k2⟩, k3⟩, k4⟩ := key
    exact ⟨⟨⟨k1, by omega⟩, k3⟩, k4⟩
  · rw [c1] at hx
    rcases List.mem_append.1 hx with hx | hx
    · exact h6 x hx
    · exact (c3 x hx).ok
theorem PastM.i64 {c : Rb} {q : Qn} {i j m : Nat} {d : Rb} (h : PastM c q i j m d) (hm : MadeOk c) : RbOk d := by
  obtain ⟨E1, a1, _, a3⟩ := h.cls
  obtain ⟨E2, b1, _, b3⟩ := h.rps
  obtain ⟨E3, c1, _, c3⟩ := h.fas
  refine ⟨fun x hx => ?_, fun x hx => ?_, fun x hx => ?_⟩
  · rw [a1] at hx
    rcases List.mem_append.1 hx with hx | hx
    · exact hm.ok.cls x hx
    · exact (a3 x hx).i64
  · rw [b1] at hx
    rcases List.mem_append.1 hx with hx | hx
    · exact hm.ok.rps x hx
    · exact (b3 x hx).i64
  · rw [c1] at hx
    rcases List.mem_append.1 hx with hx | hx
    · exact hm.ok.fas x hx
    · exact (c3 x hx).i64
theorem ClM.i64 {x : Cl} (k : ClM x) : ClOk x := by
  have h1 := k.pub; have h2 := k.f; have h3 := k.gives
  exact ⟨I64.of (by omega) (by omega), I64.of (by omega) (by omega), I64.of (by omega) (by omega), I64.of (by omega) (by omega), fun m hm => by have := k.needs.bnd m hm; exact I64.of (by omega) (by omega), fun m hm => by have := k.bars.bnd m hm; exact I64.of (by omega) (by omega)⟩
/-- A clause that was published later. -/
theorem pastCl_pub {q : Qn} {x : Cl} (hx : ClM x) (hq : AskM q) {p : Int} (hp : 0 ≤ p ∧ p < 50) : PastCl q { x with pub := q.known + 1 + p } := by
  have h1 := hx.clB
  have h2 := hq.known
  have h3 := hx.i64
  refine ⟨?_, ⟨I64.of (by show 0 ≤ q.known + 1 + p; omega) (by show q.known + 1 + p ≤ _; omega), h3.f, h3.t, h3.gives, h3.needs, h3.bars⟩, .inl (by show q.known < q.known + 1 + p; omega)⟩
  simp only [clB, secB, isInB, Bool.and_eq_true, decide_eq_true_eq] at h1 ⊢
  obtain ⟨⟨⟨⟨_, h4⟩, h5⟩, h6⟩, h7⟩ := h1
  exact ⟨⟨⟨⟨⟨by omega, by omega⟩, h4⟩, h5⟩, h6⟩, h7⟩
/-- A clause that is in force later. -/
theorem pastCl_spell {q : Qn} {x : Cl} (hx : ClM x) (hq : AskM q) {p : Int} (hp : 0 ≤ p ∧ p < 50) : PastCl q { x with f := q.at_ + 1, t := q.at_ + 2 + p } := by
  have h1 := hx.clB
  have h2 := hq.at_
  have h3 := hx.i64
  refine ⟨?_, ⟨h3.pub, I64.of (by show 0 ≤ q.at_ + 1; omega) (by show q.at_ + 1 ≤ _; omega), I64.of (by show 0 ≤ q.at_ + 2 + p; omega) (by show q.at_ + 2 + p ≤ _; omega), h3.gives, h3.needs, h3.bars⟩, .inr ?_⟩
  · simp only [clB, spellB, secB, isInB, Bool.and_eq_true, decide_eq_true_eq] at h1 ⊢
    obtain ⟨⟨⟨⟨h4, _⟩, h5⟩, h6⟩, h7⟩ := h1
    exact ⟨⟨⟨⟨h4, ⟨by omega, by omega⟩, by omega, by omega⟩, h5⟩, h6⟩, h7⟩
  · simp [hasB, isInB]; omega
theorem pastCl_not {q : Qn} {x : Cl} (hx : ClM x) (h : hasB x.f x.t q.at_ = false) : PastCl q x := ⟨hx.clB, hx.i64, .inr h⟩
theorem pastRp_pub {n : Nat} {q : Qn} (hq : AskM q) {k p f : Int} (hk : 0 ≤ k ∧ k < n) (hn : n ≤ 100) (hp : 0 ≤ p ∧ p < 50) (hf : 0 ≤ f ∧ f < 100) : PastRp n q ⟨k, q.known + 1 + p, f⟩ := by
  have h2 := hq.known
  refine ⟨?_, ⟨I64.of hk.1 (by show k ≤ _; omega), I64.of (by show 0 ≤ q.known + 1 + p; omega) (by show q.known + 1 + p ≤ _; omega), I64.of hf.1 (by show f ≤ _; omega)⟩, .inl (by show q.known < q.known + 1 + p; omega)⟩
  simp only [rpB, secB, isInB, Bool.and_eq_true, decide_eq_true_eq]
  omega
theorem pastRp_frm {n : Nat} {q : Qn} (hq : AskM q) {k p f : Int} (hk : 0 ≤ k ∧ k < n) (hn : n ≤ 100) (hp : 0 ≤ p ∧ p < 50) (hf : 0 ≤ f ∧ f < 100) : PastRp n q ⟨k, f, q.at_ + 1 + p⟩ := by
  have h2 := hq.at_
  refine ⟨?_, ⟨I64.of hk.1 (by show k ≤ _; omega), I64.of hf.1 (by show f ≤ _; omega), I64.of (by show 0 ≤ q.at_ + 1 + p; omega) (by show q.at_ + 1 + p ≤ _; omega)⟩, .inr (by show q.at_ < q.at_ + 1 + p; omega)⟩
  simp only [rpB, secB, isInB, Bool.and_eq_true, decide_eq_true_eq]
  omega
theorem FaM.i64 {x : Fa} (k : FaM x) : FaOk x := by
  have h1 := k.thing; have h2 := k.says; have h3 := k.f; have h4 := k.k
  exact ⟨I64.of (by omega) (by omega), I64.of (by omega) (by omega), I64.of (by omega) (by omega), I64.of (by omega) (by omega), I64.of (by omega) (by omega), I64.of (by omega) (by omega)⟩
theorem pastFa_thing {q : Qn} {x : Fa} (hx : FaM x) (hq : AskM q) : PastFa q { x with thing := 3 } := by
  have h1 := hx.faB
  have h2 := hq.thing
  have h3 := hx.i64
  refine ⟨?_, ⟨I64.of (by show (0 : Int) ≤ 3; decide) (by show (3 : Int) ≤ _; decide), h3.says, h3.f, h3.t, h3.kf, h3.kt⟩, ?_⟩
  · simp only [faB, isInB, Bool.and_eq_true, decide_eq_true_eq] at h1 ⊢
    obtain ⟨⟨⟨_, h5⟩, h6⟩, h7⟩ := h1
    exact ⟨⟨⟨⟨by decide, by decide⟩, h5⟩, h6⟩, h7⟩
  · have : ¬ (3 : Int) = q.thing := by omega
    simp [statesB, this]
theorem pastFa_known {q : Qn} {x : Fa} (hx : FaM x) (hq : AskM q) {p : Int} (hp : 0 ≤ p ∧ p < 50) : PastFa q { x with kf := q.known + 1, kt := q.known + 2 + p } := by
  have h1 := hx.faB
  have h2 := hq.known
  have h3 := hx.i64
  refine ⟨?_, ⟨h3.thing, h3.says, h3.f, h3.t, I64.of (by show 0 ≤ q.known + 1; omega) (by show q.known + 1 ≤ _; omega), I64.of (by show 0 ≤ q.known + 2 + p; omega) (by show q.known + 2 + p ≤ _; omega)⟩, ?_⟩
  · simp only [faB, spellB, secB, isInB, Bool.and_eq_true, decide_eq_true_eq] at h1 ⊢
    obtain ⟨⟨⟨h4, h5⟩, h6⟩, _⟩ := h1
    exact ⟨⟨⟨h4, h5⟩, h6⟩, ⟨by omega, by omega⟩, by omega, by omega⟩
  · simp [statesB, hasB, isInB]; omega
theorem pastFa_spell {q : Qn} {x : Fa} (hx : FaM x) (hq : AskM q) {p : Int} (hp : 0 ≤ p ∧ p < 50) : PastFa q { x with f := q.at_ + 1, t := q.at_ + 2 + p } := by
  have h1 := hx.faB
  have h2 := hq.at_
  have h3 := hx.i64
  refine ⟨?_, ⟨h3.thing, h3.says, I64.of (by show 0 ≤ q.at_ + 1; omega) (by show q.at_ + 1 ≤ _; omega), I64.of (by show 0 ≤ q.at_ + 2 + p; omega) (by show q.at_ + 2 + p ≤ _; omega), h3.kf, h3.kt⟩, ?_⟩
  · simp only [faB, spellB, secB, isInB, Bool.and_eq_true, decide_eq_true_eq] at h1 ⊢
    obtain ⟨⟨⟨h4, h5⟩, _⟩, h7⟩ := h1
    exact ⟨⟨⟨h4, h5⟩, ⟨by omega, by omega⟩, by omega, by omega⟩, h7⟩
  · simp [statesB, hasB, isInB]; omega

/-- A repeal's and a fact's cells. -/
theorem rpRow_cells {w : World} {v : Value} {rs : List Rp} (h : Sl w v rs.length (rs.flatMap rpC)) (k : Nat) (hk : k < rs.length) : ∃ b off cap, v = .slice (some ⟨b, off, none⟩) rs.length cap ∧ ∀ j u, (rpC rs[k])[j]? = some u → w.cell? ⟨b, off + k * 3 + j, none⟩ = some u := by
  obtain ⟨a, cap, rfl⟩ := h.val
  obtain ⟨b, off, rfl, hc⟩ := h.at_ (by omega)
  refine ⟨b, off, cap, rfl, fun j u hu => ?_⟩
  have hj : j < 3 := by have := (List.getElem?_eq_some_iff.1 hu).1; simpa [rpC] using this
  have := hc (k * 3 + j) u ((flat_get (enc := rpC) (k := 3) (fun _ => rfl) rs k hk j hj).trans hu)
  rwa [← Nat.add_assoc] at this
theorem faRow_cells {w : World} {v : Value} {rs : List Fa} (h : Sl w v rs.length (rs.flatMap faC)) (k : Nat) (hk : k < rs.length) : ∃ b off cap, v = .slice (some ⟨b, off, none⟩) rs.length cap ∧ ∀ j u, (faC rs[k])[j]? = some u → w.cell? ⟨b, off + k * 6 + j, none⟩ = some u := by
  obtain ⟨a, cap, rfl⟩ := h.val
  obtain ⟨b, off, rfl, hc⟩ := h.at_ (by omega)
  refine ⟨b, off, cap, rfl, fun j u hu => ?_⟩
  have hj : j < 6 := by have := (List.getElem?_eq_some_iff.1 hu).1; simpa [faC] using this
  have := hc (k * 6 + j) u ((flat_get (enc := faC) (k := 6) (fun _ => rfl) rs k hk j hj).trans hu)
  rwa [← Nat.add_assoc] at this

end Go.Proofs.Ytfidioedjmjddaa
