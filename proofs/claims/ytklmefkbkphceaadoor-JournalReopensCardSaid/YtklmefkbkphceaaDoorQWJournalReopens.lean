/-
  The walk of JournalReopens.
-/
import Derived.Test.YtklmefkbkphceaaDoorQL10o
namespace Go.Proofs.YtklmefkbkphceaaDoor
open Go.ChangeShapes Go.WideShapes Go.ChangeAt Go.RowKit Go.Lib

set_option maxRecDepth 100000 in
theorem walk_JournalReopens {H : Type} {enc : TypeId × Value → H} {base : Nat} (W : World) {v0 v1 : Value} {d0 d1 : DataW H} {p0 p1 : List MemPlace} (a : Addr) (hR : RndAt W) (hD : DmgAt W a)
    (k0 : Value.okWide Tryd.prog W .any base 3 v0) (h0 : DataW.Trod enc Tryd.prog W 0 (fun _ => true) true 3 v0 d0 p0) (k1 : Value.okWide Tryd.prog W .any base 43 v1) (h1 : DataW.Trod enc Tryd.prog W 0 (fun _ => true) true 43 v1 d1 p1) :
    Calls Tryd.prog 4 #[v0, v1] W fun e w' => e = .returned (.bool true) ∧ Below W.heap.size W w' := by
  obtain ⟨n, rfl, hn1, hn2⟩ := open_i64 Tryd.underlying3 k0 h0
  obtain ⟨fuel, hf⟩ := h1
  obtain ⟨a1, len1, cap1, rfl⟩ := Go.WideShapes.okWide_slice Tryd.underlying43 k1
  obtain ⟨b, cap, xs, hv, hs, hx⟩ := groups_of_trod (by simpa [Value.cells] using hf)
  rw [hv]
  exact (reopens_c n a b cap xs W ⟨hn1, hn2⟩ hs hx hR hD).mono fun _ _ ⟨he, hfr⟩ => ⟨he, hfr.below⟩

end Go.Proofs.YtklmefkbkphceaaDoor
