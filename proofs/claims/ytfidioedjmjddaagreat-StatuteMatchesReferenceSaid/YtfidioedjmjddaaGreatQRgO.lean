/-
  Arguments of StatuteMatchesReference, opened: rules, a question.
-/
import Derived.Test.YtfidioedjmjddaaGreatQL8
import Derived.Lib.SmallJoins
namespace Go.Proofs.YtfidioedjmjddaaGreat
open Go.ChangeShapes Go.WideShapes Go.ChangeAt Go.RowKit Go.Deep Go.Lib

theorem slice_of_trod {P : Program} {H : Type} {enc : TypeId × Value → H} {W : World} {t e : TypeId} {k fuel : Nat} {v : Value} {x : DataW H × List MemPlace} (Q : List Value → Prop) (ht : P.underlying t = some (.slice e)) (hk : P.cellsOf e = k) (hp : 0 < k)
    (hq : ∀ f cs y, cs.length = k → DataW.trod enc P W 0 (fun _ => true) true f e cs = some y → Q cs) (h : DataW.trod enc P W 0 (fun _ => true) true fuel t [v] = some x) :
    ∃ L : List (List Value), (∀ cs, cs ∈ L → cs.length = k ∧ Q cs) ∧ L.flatten.length = L.length * k ∧ Sl W v L.length L.flatten := by
  rcases open_slice ht h with ⟨hcs, _⟩ | ⟨a, len, cap, m, f, D, Pl, hcs, _, hl, hm, hmm, _, hel⟩
  · simp only [List.cons.injEq, and_true] at hcs
    subst hcs
    exact ⟨[], by simp, by simp, Sl.nil _⟩
  · simp only [List.cons.injEq, and_true] at hcs
    subst hcs
    simp only [if_true] at hmm
    have key : ∀ n, n ≤ len → ∃ L : List (List Value), L.length = n ∧ L.flatten.length = n * k ∧ (∀ cs, cs ∈ L → cs.length = k ∧ Q cs) ∧ ∀ j u, L.flatten[j]? = some u → W.cell? (a.add j) = some u := by
      intro n
      induction n with
      | zero => exact fun _ => ⟨[], by simp, by simp, by simp, by simp⟩
      | succ n ih =>
        intro hn
        obtain ⟨L, h0, h1, h2, h3⟩ := ih (by omega)
        obtain ⟨cs, hcs, htr⟩ := hel n (by omega)
        rw [hk] at hcs
        obtain ⟨_, hcl, hat⟩ := World.cells?_some hcs
        refine ⟨L ++ [cs], by simp [h0], by rw [List.flatten_append, List.length_append, h1]; simp [hcl, Nat.succ_mul], fun c hc => ?_, fun j u hu => ?_⟩
        · rcases List.mem_append.1 hc with hc | hc
          · exact h2 c hc
          · rw [List.mem_singleton] at hc; subst hc; exact ⟨hcl, hq _ _ _ hcl htr⟩
        · rw [List.flatten_append, List.flatten_singleton] at hu
          rcases Nat.lt_or_ge j L.flatten.length with hj | hj
          · rw [List.getElem?_append_left hj] at hu
            exact h3 j u hu
          · rw [List.getElem?_append_right hj] at hu
            have hjk : j - L.flatten.length < k := by
              have := (List.getElem?_eq_some_iff.1 hu).1
              omega
            have h4 := hat (j - L.flatten.length) hjk
            rw [Go.Deep.add_add] at h4
            rw [hu, h1, show n * k + (j - n * k) = j by omega] at h4
            exact h4
    obtain ⟨L, h0, h1, h2, h3⟩ := key len (Nat.le_refl _)
    refine ⟨L, h2, by rw [h1, h0], ⟨_, cap, by rw [h0], by omega, hm, fun hn => ?_⟩⟩
    have hpos : 0 < L.flatten.length := by rw [h1]; exact Nat.mul_pos (by omega) hp
    have hu0 := h3 0 L.flatten[0] (by simp)
    have ha : a.add 0 = a := by simp [Addr.add]
    rw [ha] at hu0
    have hs := cell_spot hu0
    obtain ⟨b, off, sp⟩ := a
    simp only at hs
    subst hs
    exact ⟨b, off, rfl, fun j u hu => by rw [← addr_add]; exact h3 j u hu⟩
theorem enc_lists {α : Type} {enc : α → List Value} {k : Nat} {P : α → Prop} : ∀ {L : List (List Value)}, (∀ cs, cs ∈ L → cs.length = k ∧ ∃ y, cs = enc y ∧ P y) → ∃ ys : List α, L.flatten = ys.flatMap enc ∧ ys.length = L.length ∧ ∀ y, y ∈ ys → P y
  | [], _ => ⟨[], rfl, rfl, by simp⟩
  | cs :: L, h => by
    obtain ⟨ys, h1, h2, h3⟩ := enc_lists (L := L) (fun c hc => h c (by simp [hc]))
    obtain ⟨_, y, rfl, h4⟩ := h cs (by simp)
    refine ⟨y :: ys, by rw [List.flatten_cons, h1]; rfl, by simp [h2], fun z hz => ?_⟩
    rcases List.mem_cons.1 hz with rfl | hz
    · exact h4
    · exact h3 z hz
/-- Structs in a slice, read. -/
theorem rows_of_trod {α : Type} {cenc : α → List Value} {R : α → Prop} {P : Program} {H : Type} {enc : TypeId × Value → H} {W : World} {t e : TypeId} {k fuel : Nat} {v : Value} {x : DataW H × List MemPlace} (ht : P.underlying t = some (.slice e)) (hk : P.cellsOf e = k) (hp : 0 < k)
    (hq : ∀ f cs y, cs.length = k → DataW.trod enc P W 0 (fun _ => true) true f e cs = some y → ∃ y, cs = cenc y ∧ R y) (h : DataW.trod enc P W 0 (fun _ => true) true fuel t [v] = some x) :
    ∃ ys : List α, Sl W v ys.length (ys.flatMap cenc) ∧ ∀ y, y ∈ ys → R y := by
  obtain ⟨L, h1, _, h3⟩ := slice_of_trod (fun cs => ∃ y, cs = cenc y ∧ R y) ht hk hp hq h
  obtain ⟨ys, e1, e2, e3⟩ := enc_lists h1
  exact ⟨ys, by rw [← e1, e2]; exact h3, e3⟩

theorem fields5 {P : Program} {H : Type} {enc : TypeId × Value → H} {w : World} {t : TypeId} {f0 f1 f2 f3 f4 : Field} {fuel : Nat} {cs : List Value} {x : DataW H × List MemPlace} (ht : P.underlying t = some (.struct #[f0, f1, f2, f3, f4])) (h : DataW.trod enc P w 0 (fun _ => true) true fuel t cs = some x) :
    ∃ y0 y1 y2 y3 y4 n, DataW.trod enc P w 0 (fun _ => true) true n f0.type ((cs.drop f0.offset).take (P.cellsOf f0.type)) = some y0 ∧ DataW.trod enc P w 0 (fun _ => true) true n f1.type ((cs.drop f1.offset).take (P.cellsOf f1.type)) = some y1 ∧ DataW.trod enc P w 0 (fun _ => true) true n f2.type ((cs.drop f2.offset).take (P.cellsOf f2.type)) = some y2 ∧
      DataW.trod enc P w 0 (fun _ => true) true n f3.type ((cs.drop f3.offset).take (P.cellsOf f3.type)) = some y3 ∧ DataW.trod enc P w 0 (fun _ => true) true n f4.type ((cs.drop f4.offset).take (P.cellsOf f4.type)) = some y4 := by
  obtain ⟨xs, n, _, rfl, hl, hlen, hf⟩ := DataW.trod_struct ht h
  match xs, hlen with
  | [y0, y1, y2, y3, y4], _ => exact ⟨y0, y1, y2, y3, y4, n, by simpa using hf 0 f0 rfl, by simpa using hf 1 f1 rfl, by simpa using hf 2 f2 rfl, by simpa using hf 3 f3 rfl, by simpa using hf 4 f4 rfl⟩

section
variable {H : Type} {enc : TypeId × Value → H} {W : World}

set_option maxRecDepth 100000 in
theorem ints_of_slice {v : Value} {fuel : Nat} {x : DataW H × List MemPlace} (h : DataW.trod enc Tryz.prog W 0 (fun _ => true) true fuel 48 [v] = some x) : ∃ l : List Int, IntsAt W v l ∧ ∀ z, z ∈ l → I64 z := by
  obtain ⟨ys, h1, h2⟩ := rows_of_trod (cenc := fun z : Int => [.int .i64 z]) (R := I64) (k := 1) Tryz.underlying48 (by kernel_rfl) (by omega) (fun f cs y hl hy => by
    match cs, hl with
    | [u], _ =>
      obtain ⟨k, rfl, e2⟩ := trod_i64 (t := 3) Tryz.underlying3 hy
      exact ⟨k, rfl, e2⟩) h
  refine ⟨ys, ?_, h2⟩
  have e : ys.flatMap (fun z : Int => [Value.int .i64 z]) = intC ys := by
    clear h1 h2
    induction ys with
    | nil => rfl
    | cons y ys ih => rw [List.flatMap_cons, ih]; rfl
  show Sl W v ys.length (intC ys)
  rw [← e]
  exact h1
set_option maxRecDepth 100000 in
theorem spell_of_trod {a b : Value} {fuel : Nat} {x : DataW H × List MemPlace} (h : DataW.trod enc Tryz.prog W 0 (fun _ => true) true fuel 65 [a, b] = some x) : ∃ f t, a = .int .i64 f ∧ b = .int .i64 t ∧ I64 f ∧ I64 t := by
  obtain ⟨y0, y1, n, _, _, g0, g1⟩ := trod_struct2 Tryz.underlying65 h
  obtain ⟨f, rfl, hf⟩ := trod_i64 (t := 3) Tryz.underlying3 (show DataW.trod enc Tryz.prog W 0 (fun _ => true) true n 3 [a] = some y0 from g0)
  obtain ⟨t, rfl, ht⟩ := trod_i64 (t := 3) Tryz.underlying3 (show DataW.trod enc Tryz.prog W 0 (fun _ => true) true n 3 [b] = some y1 from g1)
  exact ⟨f, t, rfl, rfl, hf, ht⟩
set_option maxRecDepth 100000 in
theorem clause_of_trod {cs : List Value} {fuel : Nat} {x : DataW H × List MemPlace} (hl : cs.length = 6) (h : DataW.trod enc Tryz.prog W 0 (fun _ => true) true fuel 67 cs = some x) : ∃ y : ClV, cs = clC y ∧ IntsAt W y.vn y.x.needs ∧ IntsAt W y.vb y.x.bars ∧ ClOk y.x := by
  obtain ⟨y0, y1, y2, y3, y4, n, g0, g1, g2, g3, g4⟩ := fields5 Tryz.underlying67 h
  match cs, hl with
  | [c0, c1, c2, c3, c4, c5], _ =>
    obtain ⟨p, rfl, hp⟩ := trod_i64 (t := 3) Tryz.underlying3 (show DataW.trod enc Tryz.prog W 0 (fun _ => true) true n 3 [c0] = some y0 from g0)
    obtain ⟨f, t, rfl, rfl, hf, ht⟩ := spell_of_trod (show DataW.trod enc Tryz.prog W 0 (fun _ => true) true n 65 [c1, c2] = some y1 from g1)
    obtain ⟨nl, hn, hn2⟩ := ints_of_slice (show DataW.trod enc Tryz.prog W 0 (fun _ => true) true n 48 [c3] = some y2 from g2)
    obtain ⟨bl, hb, hb2⟩ := ints_of_slice (show DataW.trod enc Tryz.prog W 0 (fun _ => true) true n 48 [c4] = some y3 from g3)
    obtain ⟨g, rfl, hg⟩ := trod_i64 (t := 3) Tryz.underlying3 (show DataW.trod enc Tryz.prog W 0 (fun _ => true) true n 3 [c5] = some y4 from g4)
    exact ⟨⟨⟨p, f, t, nl, bl, g⟩, c3, c4⟩, rfl, hn, hb, ⟨hp, hf, ht, hg, hn2, hb2⟩⟩
set_option maxRecDepth 100000 in
theorem repeal_of_trod {cs : List Value} {fuel : Nat} {x : DataW H × List MemPlace} (hl : cs.length = 3) (h : DataW.trod enc Tryz.prog W 0 (fun _ => true) true fuel 60 cs = some x) : ∃ y : Rp, cs = rpC y ∧ RpOk y := by
  obtain ⟨y0, y1, y2, n, _, _, g0, g1, g2⟩ := trod_struct3 Tryz.underlying60 h
  match cs, hl with
  | [c0, c1, c2], _ =>
    obtain ⟨p, rfl, hp⟩ := trod_i64 (t := 3) Tryz.underlying3 (show DataW.trod enc Tryz.prog W 0 (fun _ => true) true n 3 [c0] = some y0 from g0)
    obtain ⟨f, rfl, hf⟩ := trod_i64 (t := 3) Tryz.underlying3 (show DataW.trod enc Tryz.prog W 0 (fun _ => true) true n 3 [c1] = some y1 from g1)
    obtain ⟨t, rfl, ht⟩ := trod_i64 (t := 3) Tryz.underlying3 (show DataW.trod enc Tryz.prog W 0 (fun _ => true) true n 3 [c2] = some y2 from g2)
    exact ⟨⟨p, f, t⟩, rfl, ⟨hp, hf, ht⟩⟩
set_option maxRecDepth 100000 in
theorem fact_of_trod {cs : List Value} {fuel : Nat} {x : DataW H × List MemPlace} (hl : cs.length = 6) (h : DataW.trod enc Tryz.prog W 0 (fun _ => true) true fuel 74 cs = some x) : ∃ y : Fa, cs = faC y ∧ FaOk y := by
  obtain ⟨y0, y1, y2, y3, n, _, _, g0, g1, g2, g3⟩ := Go.Joins.trod_struct4 Tryz.underlying74 h
  match cs, hl with
  | [c0, c1, c2, c3, c4, c5], _ =>
    obtain ⟨a, rfl, ha⟩ := trod_i64 (t := 3) Tryz.underlying3 (show DataW.trod enc Tryz.prog W 0 (fun _ => true) true n 3 [c0] = some y0 from g0)
    obtain ⟨b, rfl, hb⟩ := trod_i64 (t := 3) Tryz.underlying3 (show DataW.trod enc Tryz.prog W 0 (fun _ => true) true n 3 [c1] = some y1 from g1)
    obtain ⟨f, t, rfl, rfl, hf, ht⟩ := spell_of_trod (show DataW.trod enc Tryz.prog W 0 (fun _ => true) true n 65 [c2, c3] = some y2 from g2)
    obtain ⟨f2, t2, rfl, rfl, hf2, ht2⟩ := spell_of_trod (show DataW.trod enc Tryz.prog W 0 (fun _ => true) true n 65 [c4, c5] = some y3 from g3)
    exact ⟨⟨a, b, f, t, f2, t2⟩, rfl, ⟨ha, hb, hf, ht, hf2, ht2⟩⟩

set_option maxRecDepth 100000 in
theorem open_rb {base : Nat} {v : Value} {d : DataW H} {p : List MemPlace} (k : Value.okWide Tryz.prog W .any base 30 v) (h : DataW.Trod enc Tryz.prog W 0 (fun _ => true) true 30 v d p) :
    ∃ vc vr vf ys c, v = rbV vc vr vf ∧ RbAt W vc vr vf ys c := by
  obtain ⟨cs, rfl, hs⟩ := okWide_struct Tryz.underlying30 k
  have hs3 : cs.size = 3 := hs.trans (by kernel_rfl)
  obtain ⟨fuel, hf⟩ := agg_open h
  obtain ⟨y0, y1, y2, n, _, _, g0, g1, g2⟩ := trod_struct3 Tryz.underlying30 hf
  match cs, hs3 with
  | ⟨[c0, c1, c2]⟩, _ =>
    obtain ⟨ys, h1, h2⟩ := rows_of_trod (cenc := clC) (k := 6) Tryz.underlying26 (by kernel_rfl) (by omega) (fun f cs y hl hy => clause_of_trod hl hy) (show DataW.trod enc Tryz.prog W 0 (fun _ => true) true n 26 [c0] = some y0 from g0)
    obtain ⟨rs, h3, h4⟩ := rows_of_trod (cenc := rpC) (k := 3) Tryz.underlying27 (by kernel_rfl) (by omega) (fun f cs y hl hy => repeal_of_trod hl hy) (show DataW.trod enc Tryz.prog W 0 (fun _ => true) true n 27 [c1] = some y1 from g1)
    obtain ⟨fs, h5, h6⟩ := rows_of_trod (cenc := faC) (k := 6) Tryz.underlying28 (by kernel_rfl) (by omega) (fun f cs y hl hy => fact_of_trod hl hy) (show DataW.trod enc Tryz.prog W 0 (fun _ => true) true n 28 [c2] = some y2 from g2)
    refine ⟨c0, c1, c2, ys, ⟨ys.map (·.x), rs, fs⟩, rfl, ⟨rfl, ⟨h1, fun y hy => (h2 y hy).1, fun y hy => (h2 y hy).2.1⟩, h3, h5, ⟨fun x hx => ?_, h4, h6⟩⟩⟩
    obtain ⟨y, hy, rfl⟩ := List.mem_map.1 hx
    exact (h2 y hy).2.2
set_option maxRecDepth 100000 in
theorem open_qn {base : Nat} {v : Value} {d : DataW H} {p : List MemPlace} (k : Value.okWide Tryz.prog W .any base 33 v) (h : DataW.Trod enc Tryz.prog W 0 (fun _ => true) true 33 v d p) :
    ∃ q : Qn, v = qnV q ∧ QnOk q := by
  obtain ⟨cs, rfl, hs⟩ := okWide_struct Tryz.underlying33 k
  have hs4 : cs.size = 4 := hs.trans (by kernel_rfl)
  obtain ⟨fuel, hf⟩ := agg_open h
  obtain ⟨y0, y1, y2, y3, n, _, _, g0, g1, g2, g3⟩ := Go.Joins.trod_struct4 Tryz.underlying33 hf
  match cs, hs4 with
  | ⟨[c0, c1, c2, c3]⟩, _ =>
    obtain ⟨a, rfl, ha⟩ := trod_i64 (t := 3) Tryz.underlying3 (show DataW.trod enc Tryz.prog W 0 (fun _ => true) true n 3 [c0] = some y0 from g0)
    obtain ⟨b, rfl, hb⟩ := trod_i64 (t := 3) Tryz.underlying3 (show DataW.trod enc Tryz.prog W 0 (fun _ => true) true n 3 [c1] = some y1 from g1)
    obtain ⟨c, rfl, hc⟩ := trod_i64 (t := 3) Tryz.underlying3 (show DataW.trod enc Tryz.prog W 0 (fun _ => true) true n 3 [c2] = some y2 from g2)
    obtain ⟨e, rfl, he⟩ := trod_i64 (t := 3) Tryz.underlying3 (show DataW.trod enc Tryz.prog W 0 (fun _ => true) true n 3 [c3] = some y3 from g3)
    exact ⟨⟨a, b, c, e⟩, rfl, ⟨ha, hb, hc, he⟩⟩
end

end Go.Proofs.YtfidioedjmjddaaGreat
