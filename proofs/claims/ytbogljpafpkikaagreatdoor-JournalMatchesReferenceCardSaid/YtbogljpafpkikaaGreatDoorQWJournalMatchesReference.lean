/-
  The walk of JournalMatchesReference.
-/
import Derived.Test.YtbogljpafpkikaaGreatDoorQRW
namespace Go.Proofs.YtbogljpafpkikaaGreatDoor
open Go.ChangeShapes Go.WideShapes Go.ChangeAt Go.RowKit Go.Lib

set_option maxRecDepth 100000 in
theorem walk_JournalMatchesReference {H : Type} {enc : TypeId × Value → H} {base : Nat} (W : World) {v0 v1 : Value} {d0 d1 : DataW H} {p0 p1 : List MemPlace} (a : Addr) (hR : RndAt W) (hD : DmgAt W a)
    (k0 : Value.okWide Tryz.prog W .any base 3 v0) (h0 : DataW.Trod enc Tryz.prog W 0 (fun _ => true) true 3 v0 d0 p0) (k1 : Value.okWide Tryz.prog W .any base 56 v1) (h1 : DataW.Trod enc Tryz.prog W 0 (fun _ => true) true 56 v1 d1 p1) :
    Calls Tryz.prog 5 #[v0, v1] W fun e w' => e = .returned (.bool true) ∧ Below W.heap.size W w' := by
  obtain ⟨n, rfl, hn1, hn2⟩ := open_i64 Tryz.underlying3 k0 h0
  obtain ⟨b, cap, xs, rfl, hs⟩ := rowOp_of_open k1 h1
  exact (matches10_c n a b cap xs W ⟨hn1, hn2⟩ hs hR hD).mono fun _ _ ⟨he, hfr⟩ => ⟨he, hfr.below⟩

end Go.Proofs.YtbogljpafpkikaaGreatDoor
