/-
  The walk of JournalRoom.
-/
import Derived.Test.YtklmefkbkphceaaDoorQL10o
import Derived.Test.YtklmefkbkphceaaDoorQL10u
namespace Go.Proofs.YtklmefkbkphceaaDoor
open Go.ChangeShapes Go.WideShapes Go.ChangeAt Go.RowKit Go.Lib

set_option maxRecDepth 100000 in
theorem walk_JournalRoom {H : Type} {enc : TypeId × Value → H} {base : Nat} (W : World) {v0 v1 v2 : Value} {d0 d1 d2 : DataW H} {p0 p1 p2 : List MemPlace} (a : Addr) (hR : RndAt W) (hD : DmgAt W a)
    (k0 : Value.okWide Tryd.prog W .any base 3 v0) (h0 : DataW.Trod enc Tryd.prog W 0 (fun _ => true) true 3 v0 d0 p0) (k1 : Value.okWide Tryd.prog W .any base 22 v1) (h1 : DataW.Trod enc Tryd.prog W 0 (fun _ => true) true 22 v1 d1 p1)
    (k2 : Value.okWide Tryd.prog W .any base 3 v2) (h2 : DataW.Trod enc Tryd.prog W 0 (fun _ => true) true 3 v2 d2 p2) :
    Calls Tryd.prog 3 #[v0, v1, v2] W fun e w' => e = .returned (.bool true) ∧ Below W.heap.size W w' := by
  obtain ⟨n, rfl, hn1, hn2⟩ := open_i64 Tryd.underlying3 k0 h0
  obtain ⟨m, rfl, hm1, hm2⟩ := open_i64 Tryd.underlying3 k2 h2
  obtain ⟨fuel, hf⟩ := h1
  obtain ⟨a1, len1, cap1, rfl⟩ := Go.WideShapes.okWide_slice Tryd.underlying22 k1
  obtain ⟨l, hl⟩ := gok_of_trod (by simpa [Value.cells] using hf)
  exact (room10_c n m a _ l W ⟨hn1, hn2⟩ ⟨hm1, hm2⟩ hl hR hD).mono fun _ _ ⟨he, hfr⟩ => ⟨he, hfr.below⟩

end Go.Proofs.YtklmefkbkphceaaDoor
