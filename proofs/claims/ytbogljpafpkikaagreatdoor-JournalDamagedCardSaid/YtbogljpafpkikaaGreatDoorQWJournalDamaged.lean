/-
  The walk of JournalDamaged.
-/
import Derived.Test.YtbogljpafpkikaaGreatDoorQL10o
import Derived.Test.YtbogljpafpkikaaGreatDoorQL10m
namespace Go.Proofs.YtbogljpafpkikaaGreatDoor
open Go.ChangeShapes Go.WideShapes Go.ChangeAt Go.RowKit Go.Lib

theorem byte_of {n : Int} (h : 0 ≤ n ∧ n ≤ 255) : ∃ c : UInt8, n = (c.toNat : Int) := ⟨UInt8.ofNat n.toNat, by simp only [UInt8.toNat_ofNat']; omega⟩

set_option maxRecDepth 100000 in
theorem walk_JournalDamaged {H : Type} {enc : TypeId × Value → H} {base : Nat} (W : World) {v0 v1 v2 : Value} {d0 d1 d2 : DataW H} {p0 p1 p2 : List MemPlace} (a : Addr) (hR : RndAt W) (hD : DmgAt W a)
    (k0 : Value.okWide Tryz.prog W .any base 48 v0) (h0 : DataW.Trod enc Tryz.prog W 0 (fun _ => true) true 48 v0 d0 p0) (k1 : Value.okWide Tryz.prog W .any base 3 v1) (h1 : DataW.Trod enc Tryz.prog W 0 (fun _ => true) true 3 v1 d1 p1)
    (k2 : Value.okWide Tryz.prog W .any base 5 v2) (h2 : DataW.Trod enc Tryz.prog W 0 (fun _ => true) true 5 v2 d2 p2) :
    Calls Tryz.prog 4 #[v0, v1, v2] W fun e w' => e = .returned (.bool true) ∧ Below W.heap.size W w' := by
  obtain ⟨atv, rfl, ha1, ha2⟩ := open_i64 Tryz.underlying3 k1 h1
  obtain ⟨n, rfl, _, _, wf⟩ := open_int Tryz.underlying5 k2 h2
  obtain ⟨c, rfl⟩ := byte_of (Go.bounds_u8 wf)
  obtain ⟨fuel, hf⟩ := h0
  obtain ⟨a1, len1, cap1, rfl⟩ := Go.WideShapes.okWide_slice Tryz.underlying48 k0
  obtain ⟨b, cap, xs, hv, hs, hx⟩ := groups_of_trod (by simpa [Value.cells] using hf)
  rw [hv]
  exact (damaged_c atv c a b cap xs W ⟨ha1, ha2⟩ hs hx hR hD).mono fun _ _ ⟨he, hfr⟩ => ⟨he, hfr.below⟩

end Go.Proofs.YtbogljpafpkikaaGreatDoor
