/-
  The walk of JournalSurvives.
-/
import Derived.Test.YtfmlaepgnfphiaaGreatDoorQL10o
import Derived.Test.YtfmlaepgnfphiaaGreatDoorQL10g
namespace Go.Proofs.YtfmlaepgnfphiaaGreatDoor
open Go.ChangeShapes Go.WideShapes Go.ChangeAt Go.RowKit Go.Lib

set_option maxRecDepth 100000 in
theorem walk_JournalSurvives {H : Type} {enc : TypeId × Value → H} {base : Nat} (W : World) {v0 v1 v2 v3 v4 : Value} {d0 d1 d2 d3 d4 : DataW H} {p0 p1 p2 p3 p4 : List MemPlace} (a : Addr) (hR : RndAt W) (hD : DmgAt W a)
    (k0 : Value.okWide Tryz.prog W .any base 3 v0) (h0 : DataW.Trod enc Tryz.prog W 0 (fun _ => true) true 3 v0 d0 p0) (k1 : Value.okWide Tryz.prog W .any base 22 v1) (h1 : DataW.Trod enc Tryz.prog W 0 (fun _ => true) true 22 v1 d1 p1)
    (k2 : Value.okWide Tryz.prog W .any base 3 v2) (h2 : DataW.Trod enc Tryz.prog W 0 (fun _ => true) true 3 v2 d2 p2) (k3 : Value.okWide Tryz.prog W .any base 23 v3) (h3 : DataW.Trod enc Tryz.prog W 0 (fun _ => true) true 23 v3 d3 p3)
    (k4 : Value.okWide Tryz.prog W .any base 3 v4) (h4 : DataW.Trod enc Tryz.prog W 0 (fun _ => true) true 3 v4 d4 p4) :
    Calls Tryz.prog 3 #[v0, v1, v2, v3, v4] W fun e w' => e = .returned (.bool true) ∧ Below W.heap.size W w' := by
  obtain ⟨n, rfl, hn1, hn2⟩ := open_i64 Tryz.underlying3 k0 h0
  obtain ⟨cut, rfl, hc1, hc2⟩ := open_i64 Tryz.underlying3 k2 h2
  obtain ⟨torn, rfl, ht1, ht2⟩ := open_i64 Tryz.underlying3 k4 h4
  obtain ⟨fuel, hf⟩ := h1
  obtain ⟨a1, len1, cap1, rfl⟩ := Go.WideShapes.okWide_slice Tryz.underlying22 k1
  obtain ⟨b, cap, xs, hv, hs, hx⟩ := groups_of_trod (by simpa [Value.cells] using hf)
  rw [hv]
  obtain ⟨ka, kc, keep, rfl, hk⟩ := rowI_of_open Tryz.underlying23 Tryz.underlying3 (by kernel_rfl) k3 h3
  exact (survives_c n cut torn a b cap xs ka kc keep W ⟨hn1, hn2⟩ ⟨hc1, hc2⟩ ⟨ht1, ht2⟩ hs hx hk hR hD).mono fun _ _ ⟨he, hfr⟩ => ⟨he, hfr.below⟩

end Go.Proofs.YtfmlaepgnfphiaaGreatDoor
