/-
  Arguments of dialtonelaw08, opened: arrays of integers, slices of arrays, Numbers, findings.
-/
import Derived.Test.YtfidioedjmjddaaL8e
import Derived.Test.YtfidioedjmjddaaLawS
import Derived.OpenShut
import Derived.Deep.Strs
namespace Go.Proofs.Ytfidioedjmjddaa
open Go.ChangeShapes Go.WideShapes Go.ChangeAt Go.RowKit Go.Deep Go.Lib

theorem ints_list : ∀ {cs : List Value}, (∀ u, u ∈ cs → ∃ k : Int, u = .int .i64 k ∧ I64 k) → ∃ zs : List Int, cs = intC zs ∧ ∀ z, z ∈ zs → I64 z
  | [], _ => ⟨[], rfl, by simp⟩
  | u :: cs, h => by
    obtain ⟨k, rfl, hk⟩ := h u (by simp)
    obtain ⟨zs, rfl, hz⟩ := ints_list (cs := cs) (fun u hu => h u (by simp [hu]))
    exact ⟨k :: zs, rfl, fun z hm => by
      rcases List.mem_cons.1 hm with rfl | hm
      · exact hk
      · exact hz z hm⟩

theorem ints_of_array {P : Program} {H : Type} {enc : TypeId × Value → H} {W : World} {t e : TypeId} {n fuel : Nat} {cs : List Value} {x : DataW H × List MemPlace} (ht : P.underlying t = some (.array n e)) (he : P.underlying e = some (.int .i64)) (hc : P.cellsOf e = 1) (hn : P.cellsOf t = n)
    (h : DataW.trod enc P W 0 (fun _ => true) true fuel t cs = some x) : ∃ zs : List Int, cs = intC zs ∧ zs.length = n ∧ ∀ z, z ∈ zs → I64 z := by
  obtain ⟨xs, m, _, _, hl, hx, hi⟩ := DataW.trod_array ht h
  rw [hn] at hl
  obtain ⟨zs, rfl, hz⟩ := ints_list (cs := cs) (fun u hu => by
    obtain ⟨i, hil, rfl⟩ := List.getElem_of_mem hu
    have h1 := hi i (by omega)
    rw [hc, Nat.mul_one, List.drop_eq_getElem_cons hil, List.getElem?_eq_getElem (by omega)] at h1
    obtain ⟨k, h2, h3⟩ := trod_i64 he h1
    exact ⟨k, h2, h3⟩)
  exact ⟨zs, rfl, by simpa using hl, hz⟩

theorem nums_of_trod {P : Program} {H : Type} {enc : TypeId × Value → H} {W : World} {t e i : TypeId} {k fuel : Nat} {v : Value} {x : DataW H × List MemPlace} (ht : P.underlying t = some (.slice e)) (he : P.underlying e = some (.array k i)) (hi : P.underlying i = some (.int .i64)) (hc : P.cellsOf i = 1) (hk : P.cellsOf e = k) (hp : 0 < k)
    (h : DataW.trod enc P W 0 (fun _ => true) true fuel t [v] = some x) : ∃ n is, NumAt W v n k is := by
  rcases open_slice ht h with ⟨hcs, _⟩ | ⟨a, len, cap, m, f, D, Pl, hcs, _, hl, hm, hmm, _, hel⟩
  · simp only [List.cons.injEq, and_true] at hcs
    subst hcs
    exact ⟨0, [], Sl.nil _, by simp, by simp⟩
  · simp only [List.cons.injEq, and_true] at hcs
    subst hcs
    simp only [if_true] at hmm
    have key : ∀ n, n ≤ len → ∃ is : List Int, is.length = n * k ∧ (∀ z, z ∈ is → I64 z) ∧ ∀ j u, (intC is)[j]? = some u → W.cell? (a.add j) = some u := by
      intro n
      induction n with
      | zero => exact fun _ => ⟨[], by simp, by simp, by simp⟩
      | succ n ih =>
        intro hn
        obtain ⟨is, h1, h2, h3⟩ := ih (by omega)
        obtain ⟨cs, hcs, htr⟩ := hel n (by omega)
        rw [hk] at hcs
        obtain ⟨zs, rfl, hz1, hz2⟩ := ints_of_array he hi hc hk htr
        obtain ⟨_, hcl, hat⟩ := World.cells?_some hcs
        refine ⟨is ++ zs, by rw [List.length_append, h1, hz1, Nat.succ_mul], fun z hz => ?_, fun j u hu => ?_⟩
        · rcases List.mem_append.1 hz with hz | hz
          · exact h2 z hz
          · exact hz2 z hz
        · rw [intC, List.map_append] at hu
          rcases Nat.lt_or_ge j is.length with hj | hj
          · rw [List.getElem?_append_left (by simpa using hj)] at hu
            exact h3 j u hu
          · rw [List.getElem?_append_right (by simpa using hj)] at hu
            have hjk : j - is.length < k := by
              have := (List.getElem?_eq_some_iff.1 hu).1
              simp at this; omega
            have h4 := hat (j - is.length) hjk
            rw [Go.Deep.add_add] at h4
            rw [List.length_map] at hu
            rw [hu, h1, show n * k + (j - n * k) = j by omega] at h4
            exact h4
    obtain ⟨is, h1, h2, h3⟩ := key len (Nat.le_refl _)
    refine ⟨len, is, ⟨_, cap, rfl, hl, hm, fun h0 => ?_⟩, h1, h2⟩
    have hpos : 0 < is.length := by rw [h1]; exact Nat.mul_pos h0 hp
    have hu0 := h3 0 (.int .i64 is[0]) (by simp [hpos])
    have ha : a.add 0 = a := by simp [Addr.add]
    rw [ha] at hu0
    have hs := cell_spot hu0
    obtain ⟨b, off, sp⟩ := a
    simp only at hs
    subst hs
    exact ⟨b, off, rfl, fun j u hu => by rw [← addr_add]; exact h3 j u hu⟩

set_option maxRecDepth 100000 in
theorem fds_of_trod {H : Type} {enc : TypeId × Value → H} {W : World} {v : Value} {fuel : Nat} {x : DataW H × List MemPlace} (h : DataW.trod enc Try.prog W 0 (fun _ => true) true fuel 42 [v] = some x) : ∃ l : List Fd, Sl W v l.length (l.flatMap fdC) := by
  obtain ⟨a, len, cap, rfl, h1, h2, h3⟩ := structs_of_trod Try.underlying42 Try.underlying58 (by kernel_rfl) (by kernel_rfl) (by simp) h
  rcases Nat.eq_zero_or_pos len with h0 | h0
  · subst h0
    exact ⟨[], a, cap, rfl, h1, h2, by simp⟩
  · obtain ⟨b, off, rfl, _, hel⟩ := h3 h0
    have key : ∀ n, n ≤ len → ∃ l : List Fd, l.length = n ∧ ∀ i (hi : i < l.length), W.cell? ⟨b, off + (i * 4 + 0), none⟩ = some (.int .i64 l[i].says) ∧ W.cell? ⟨b, off + (i * 4 + 1), none⟩ = some (.bool l[i].holds) ∧ W.cell? ⟨b, off + (i * 4 + 2), none⟩ = some (.int .i64 l[i].fact) ∧ W.cell? ⟨b, off + (i * 4 + 3), none⟩ = some (.int .i64 l[i].cl) := by
      intro n
      induction n with
      | zero => exact fun _ => ⟨[], rfl, by simp⟩
      | succ n ih =>
        intro hn
        obtain ⟨l, hl, hc⟩ := ih (by omega)
        obtain ⟨u0, y0, m0, c0, t0⟩ := hel n (by omega) 0 _ rfl
        obtain ⟨u1, y1, m1, c1, t1⟩ := hel n (by omega) 1 _ rfl
        obtain ⟨u2, y2, m2, c2, t2⟩ := hel n (by omega) 2 _ rfl
        obtain ⟨u3, y3, m3, c3, t3⟩ := hel n (by omega) 3 _ rfl
        obtain ⟨x0, rfl, _⟩ := trod_i64 (t := 3) Try.underlying3 t0
        obtain ⟨x1, rfl⟩ := trod_bool (t := 4) Try.underlying4 t1
        obtain ⟨x2, rfl, _⟩ := trod_i64 (t := 3) Try.underlying3 t2
        obtain ⟨x3, rfl, _⟩ := trod_i64 (t := 3) Try.underlying3 t3
        refine ⟨l ++ [⟨x0, x1, x2, x3⟩], by simp [hl], fun i hi => ?_⟩
        simp only [List.length_append, List.length_cons, List.length_nil] at hi
        by_cases hin : i < l.length
        · rw [List.getElem_append_left hin]
          exact hc i hin
        · obtain rfl : i = n := by omega
          rw [List.getElem_append_right (by omega)]
          simp only [hl, Nat.sub_self, List.getElem_cons_zero]
          exact ⟨c0, c1, c2, c3⟩
    obtain ⟨l, hl, hc⟩ := key len (Nat.le_refl _)
    refine ⟨l, some ⟨b, off, none⟩, cap, by rw [hl], by omega, h2, fun _ => ⟨b, off, rfl, fun j u hu => ?_⟩⟩
    have hj : j < l.length * 4 := by
      have := (List.getElem?_eq_some_iff.1 hu).1
      rwa [fdC_len] at this
    obtain ⟨c0, c1, c2, c3⟩ := hc (j / 4) (by omega)
    have hu' : (fdC (l[j / 4]'(by omega)))[j % 4]? = some u := by
      rw [← flat_get (enc := fdC) (k := 4) (fun _ => rfl) l (j / 4) (by omega) (j % 4) (by omega), ← hu]
      congr 1; omega
    have hj4 : j = j / 4 * 4 + j % 4 := by omega
    rw [hj4]
    have hr4 : j % 4 = 0 ∨ j % 4 = 1 ∨ j % 4 = 2 ∨ j % 4 = 3 := by omega
    rcases hr4 with hr | hr | hr | hr
    · rw [hr] at hu' ⊢; rw [c0]; exact hu'
    · rw [hr] at hu' ⊢; rw [c1]; exact hu'
    · rw [hr] at hu' ⊢; rw [c2]; exact hu'
    · rw [hr] at hu' ⊢; rw [c3]; exact hu'

theorem agg_open {P : Program} {H : Type} {enc : TypeId × Value → H} {W : World} {t : TypeId} {cs : Array Value} {d : DataW H} {p : List MemPlace} (h : DataW.Trod enc P W 0 (fun _ => true) true t (.agg cs) d p) : ∃ fuel, DataW.trod enc P W 0 (fun _ => true) true fuel t cs.toList = some (d, p) := by
  obtain ⟨fuel, hf⟩ := h
  exact ⟨fuel, by simpa [Value.cells] using hf⟩


set_option maxRecDepth 100000 in
theorem open_numbers {H : Type} {enc : TypeId × Value → H} {W : World} {base : Nat} {v : Value} {d : DataW H} {p : List MemPlace} (k : Value.okWide Try.prog W .any base 25 v) (h : DataW.Trod enc Try.prog W 0 (fun _ => true) true 25 v d p) :
    ∃ v1 v2 v3 n1 n2 n3 is1 is2 is3, v = .agg #[v1, v2, v3] ∧ NumAt W v1 n1 6 is1 ∧ NumAt W v2 n2 3 is2 ∧ NumAt W v3 n3 6 is3 := by
  obtain ⟨cs, rfl, hs⟩ := okWide_struct Try.underlying25 k
  have hs3 : cs.size = 3 := hs.trans (by kernel_rfl)
  obtain ⟨fuel, hf⟩ := agg_open h
  obtain ⟨y0, y1, y2, n, _, _, g0, g1, g2⟩ := trod_struct3 Try.underlying25 hf
  match cs, hs3 with
  | ⟨[c0, c1, c2]⟩, _ =>
    obtain ⟨n1, is1, a1⟩ := nums_of_trod (k := 6) Try.underlying22 Try.underlying64 Try.underlying3 (by kernel_rfl) (by kernel_rfl) (by omega) (show DataW.trod enc Try.prog W 0 (fun _ => true) true n 22 [c0] = some y0 from g0)
    obtain ⟨n2, is2, a2⟩ := nums_of_trod (k := 3) Try.underlying23 Try.underlying67 Try.underlying3 (by kernel_rfl) (by kernel_rfl) (by omega) (show DataW.trod enc Try.prog W 0 (fun _ => true) true n 23 [c1] = some y1 from g1)
    obtain ⟨n3, is3, a3⟩ := nums_of_trod (k := 6) Try.underlying22 Try.underlying64 Try.underlying3 (by kernel_rfl) (by kernel_rfl) (by omega) (show DataW.trod enc Try.prog W 0 (fun _ => true) true n 22 [c2] = some y2 from g2)
    exact ⟨c0, c1, c2, n1, n2, n3, is1, is2, is3, rfl, a1, a2, a3⟩


set_option maxRecDepth 100000 in
theorem open_i4 {H : Type} {enc : TypeId × Value → H} {W : World} {base : Nat} {v : Value} {d : DataW H} {p : List MemPlace} (k : Value.okWide Try.prog W .any base 26 v) (h : DataW.Trod enc Try.prog W 0 (fun _ => true) true 26 v d p) :
    ∃ a b c d, v = .agg #[.int .i64 a, .int .i64 b, .int .i64 c, .int .i64 d] ∧ I64 a ∧ I64 b ∧ I64 c ∧ I64 d := by
  obtain ⟨cs, rfl⟩ : ∃ cs, v = .agg cs := by
    simp only [Value.okWide, Try.underlying26] at k
    obtain ⟨cs, h1, _⟩ := k
    exact ⟨cs, h1⟩
  obtain ⟨fuel, hf⟩ := agg_open h
  obtain ⟨zs, h1, h2, h3⟩ := ints_of_array (n := 4) Try.underlying26 Try.underlying3 (by kernel_rfl) (by kernel_rfl) hf
  obtain ⟨cs⟩ := cs
  simp only at h1
  subst h1
  match zs, h2 with
  | [a, b, c, d], _ => exact ⟨a, b, c, d, rfl, h3 a (by simp), h3 b (by simp), h3 c (by simp), h3 d (by simp)⟩

end Go.Proofs.Ytfidioedjmjddaa
