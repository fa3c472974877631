/-
  The reference's digest: a block.
-/
import Derived.Test.YtledkokhghjfmaaGreatDoorPS15
namespace Go.Proofs.YtledkokhghjfmaaGreatDoor
open Go.RowKit Go.Lib
theorem Sl.src {w:World} {b off n c:Nat} {cs:List Value} (h:Sl w (.slice (some ⟨b,off,none⟩) n c) n cs) (hn:0 < n):SrcAt w (.slice (some ⟨b,off,none⟩) n c) n cs :=
 ⟨.inr ⟨_,c,rfl,fun j u hu=>by
  obtain ⟨b',off',he,hc⟩:=h.at_ hn
  cases he
  have e:(⟨b,off,none⟩:Addr).add j=⟨b,off+j,none⟩:=by
   unfold Addr.add
   split
   ·rename_i h;subst h;rfl
   ·rfl
  rw [e]
  exact hc j u hu⟩⟩
end Go.Proofs.YtledkokhghjfmaaGreatDoor
