/-
  The walk of JournalKeeps.
-/
import Derived.Test.YtfmlaepgnfphiaaGreatDoorQL10o
import Derived.Test.YtfmlaepgnfphiaaGreatDoorQL10h
namespace Go.Proofs.YtfmlaepgnfphiaaGreatDoor
open Go.ChangeShapes Go.WideShapes Go.ChangeAt Go.RowKit Go.Lib

theorem each_op {Q : Nat → OpV → Prop} (n : Nat) (h : ∀ i, i < n → ∃ x, Q i x) : ∃ l : List OpV, l.length = n ∧ ∀ i, (hi : i < l.length) → Q i l[i] := by
  induction n with
  | zero => exact ⟨[], rfl, fun i hi => absurd hi (by simp)⟩
  | succ n ih =>
    obtain ⟨l, hl, hQ⟩ := ih (fun i hi => h i (by omega))
    obtain ⟨x, hx⟩ := h n (by omega)
    refine ⟨l ++ [x], by simp [hl], fun i hi => ?_⟩
    rcases Nat.lt_or_ge i l.length with h1 | h1
    · rw [List.getElem_append_left h1]
      exact hQ i h1
    · have h2 : i = n := by simp at hi; omega
      rw [List.getElem_append_right h1]
      simpa [h2] using hx

set_option maxRecDepth 100000 in
theorem rowOp_of_open {H : Type} {enc : TypeId × Value → H} {W : World} {base : Nat} {v : Value} {d : DataW H} {p : List MemPlace}
    (k : Value.okWide Tryz.prog W .any base 42 v) (h : DataW.Trod enc Tryz.prog W 0 (fun _ => true) true 42 v d p) : ∃ a cap l, v = .slice a l.length cap ∧ RowOp W a cap l := by
  obtain ⟨a0, len0, cap0, rfl⟩ := Go.WideShapes.okWide_slice Tryz.underlying42 k
  obtain ⟨fuel, hf⟩ := h
  obtain ⟨a, len, cap, hv, h1, h2, h3⟩ := structs_of_trod Tryz.underlying42 Tryz.underlying44 (by kernel_rfl) (by kernel_rfl) (by decide) (by simpa [Value.cells] using hf)
  rcases Nat.eq_zero_or_pos len with h0 | h0
  · exact ⟨a, cap, [], by rw [hv, h0]; rfl, by simp, h2, by simp, by simp⟩
  · obtain ⟨b, off, ha, _, hc⟩ := h3 h0
    have each : ∀ i, i < len → ∃ y : OpV, y.Ok W ∧ W.cell? ⟨b, off + i * 4, none⟩ = some (.int .i64 y.kind) ∧ W.cell? ⟨b, off + i * 4 + 1, none⟩ = some y.lv ∧ W.cell? ⟨b, off + i * 4 + 2, none⟩ = some (.int .i64 y.n) ∧ W.cell? ⟨b, off + i * 4 + 3, none⟩ = some (.slice y.ka y.keep.length y.kc) := by
      intro i hi
      obtain ⟨u0, _, _, c0, t0⟩ := hc i hi 0 _ rfl
      obtain ⟨u1, _, _, c1, t1⟩ := hc i hi 1 _ rfl
      obtain ⟨u2, _, _, c2, t2⟩ := hc i hi 2 _ rfl
      obtain ⟨u3, _, _, c3, t3⟩ := hc i hi 3 _ rfl
      obtain ⟨x0, rfl, b0, b1⟩ := trod_i64 Tryz.underlying3 t0
      obtain ⟨l, hl⟩ := gok_of_trod t1
      obtain ⟨x2, rfl, b4, b5⟩ := trod_i64 Tryz.underlying3 t2
      obtain ⟨ka, kcap, zs, rfl, hr⟩ := rowI_of_trod Tryz.underlying23 Tryz.underlying3 (by kernel_rfl) t3
      exact ⟨⟨x0, u1, l, x2, ka, kcap, zs⟩, ⟨b0, b1, b4, b5, hl, hr⟩, c0, c1, c2, c3⟩
    obtain ⟨l, hl, hQ⟩ := each_op len each
    refine ⟨a, cap, l, by rw [hv, hl], by omega, h2, fun x hx => ?_, fun _ => ⟨b, off, ha, fun i hi => (hQ i hi).2⟩⟩
    obtain ⟨j, hj, rfl⟩ := List.getElem_of_mem hx
    exact (hQ j hj).1

set_option maxRecDepth 100000 in
theorem walk_JournalKeeps {H : Type} {enc : TypeId × Value → H} {base : Nat} (W : World) {v0 v1 : Value} {d0 d1 : DataW H} {p0 p1 : List MemPlace} (a : Addr) (hR : RndAt W) (hD : DmgAt W a)
    (k0 : Value.okWide Tryz.prog W .any base 3 v0) (h0 : DataW.Trod enc Tryz.prog W 0 (fun _ => true) true 3 v0 d0 p0) (k1 : Value.okWide Tryz.prog W .any base 42 v1) (h1 : DataW.Trod enc Tryz.prog W 0 (fun _ => true) true 42 v1 d1 p1) :
    Calls Tryz.prog 4 #[v0, v1] W fun e w' => e = .returned (.bool true) ∧ Below W.heap.size W w' := by
  obtain ⟨n, rfl, hn1, hn2⟩ := open_i64 Tryz.underlying3 k0 h0
  obtain ⟨b, cap, xs, rfl, hs⟩ := rowOp_of_open k1 h1
  exact (keeps_c n a b cap xs W ⟨hn1, hn2⟩ hs hR hD).mono fun _ _ ⟨he, hfr⟩ => ⟨he, hfr.below⟩

end Go.Proofs.YtfmlaepgnfphiaaGreatDoor
