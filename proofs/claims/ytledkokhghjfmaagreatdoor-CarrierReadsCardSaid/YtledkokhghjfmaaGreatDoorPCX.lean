/-
  carrier: which notices are formed: all kinds.
-/
import Derived.Test.YtledkokhghjfmaaGreatDoorPC8
import Derived.Test.YtledkokhghjfmaaGreatDoorPC9
namespace Go.Proofs.YtledkokhghjfmaaGreatDoor
open Go.RowKit Go.Lib
theorem caIsFormed_c (t:Nt) (w:World):Calls Tryz.prog 28 #[ntV t] w fun e w'=>e=.returned (.bool (fmN t))∧Fr [] w w':=by
 obtain ⟨s,k,n,lk,la,lh,cn,cf,ct,ch,ca,cb,ek,ea,er⟩:=t
 by_cases h1:k=1
 ·subst h1;exact formed1_c s n lk la lh cn cf ct ch ca cb ek ea er w
 by_cases h2:k=2
 ·subst h2;exact formed2_c s n lk la lh cn cf ct ch ca cb ek ea er w
 by_cases h3:k=3
 ·subst h3;exact formed3_c s n lk la lh cn cf ct ch ca cb ek ea er w
 exact formed0_c _ _ _ _ _ _ _ _ _ _ _ _ _ _ _ h1 h2 h3 _
end Go.Proofs.YtledkokhghjfmaaGreatDoor
