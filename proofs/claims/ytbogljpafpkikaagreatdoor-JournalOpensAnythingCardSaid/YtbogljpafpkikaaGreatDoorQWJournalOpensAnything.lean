/-
  The walk of JournalOpensAnything.
-/
import Derived.Test.YtbogljpafpkikaaGreatDoorQL10o
import Derived.Test.YtbogljpafpkikaaGreatDoorQR10n
namespace Go.Proofs.YtbogljpafpkikaaGreatDoor
open Go.ChangeShapes Go.WideShapes Go.ChangeAt Go.RowKit Go.Lib

theorem byte_of {n : Int} (h : 0 ≤ n ∧ n ≤ 255) : ∃ c : UInt8, n = (c.toNat : Int) := ⟨UInt8.ofNat n.toNat, by simp only [UInt8.toNat_ofNat']; omega⟩

set_option maxRecDepth 100000 in
theorem walk_JournalOpensAnything {H : Type} {enc : TypeId × Value → H} {base : Nat} (W : World) {v0 v1 v2 v3 v4 : Value} {d0 d1 d2 d3 d4 : DataW H} {p0 p1 p2 p3 p4 : List MemPlace} (a : Addr) (hR : RndAt W) (hD : DmgAt W a)
    (k0 : Value.okWide Tryz.prog W .any base 3 v0) (h0 : DataW.Trod enc Tryz.prog W 0 (fun _ => true) true 3 v0 d0 p0) (k1 : Value.okWide Tryz.prog W .any base 9 v1) (h1 : DataW.Trod enc Tryz.prog W 0 (fun _ => true) true 9 v1 d1 p1)
    (k2 : Value.okWide Tryz.prog W .any base 22 v2) (h2 : DataW.Trod enc Tryz.prog W 0 (fun _ => true) true 22 v2 d2 p2) (k3 : Value.okWide Tryz.prog W .any base 3 v3) (h3 : DataW.Trod enc Tryz.prog W 0 (fun _ => true) true 3 v3 d3 p3)
    (k4 : Value.okWide Tryz.prog W .any base 5 v4) (h4 : DataW.Trod enc Tryz.prog W 0 (fun _ => true) true 5 v4 d4 p4) :
    Calls Tryz.prog 3 #[v0, v1, v2, v3, v4] W fun e w' => e = .returned (.bool true) ∧ Below W.heap.size W w' := by
  obtain ⟨n, rfl, hn1, hn2⟩ := open_i64 Tryz.underlying3 k0 h0
  obtain ⟨s, rfl, hs⟩ := open_str Tryz.underlying9 k1 h1
  obtain ⟨atv, rfl, ha1, ha2⟩ := open_i64 Tryz.underlying3 k3 h3
  obtain ⟨x, rfl, _, _, wf⟩ := open_int Tryz.underlying5 k4 h4
  obtain ⟨c, rfl⟩ := byte_of (Go.bounds_u8 wf)
  obtain ⟨fuel, hf⟩ := h2
  obtain ⟨a1, len1, cap1, rfl⟩ := Go.WideShapes.okWide_slice Tryz.underlying22 k2
  obtain ⟨l, b, cap, hv, hsl, hls⟩ := gok_of_trod (by simpa [Value.cells] using hf)
  rw [hv]
  exact (anything10_c n atv s c a b cap l W ⟨hn1, hn2⟩ ⟨ha1, ha2⟩ hs hsl hls hR hD).mono fun _ _ ⟨he, hfr⟩ => ⟨he, hfr.below⟩

end Go.Proofs.YtbogljpafpkikaaGreatDoor
