/-
  The reference's digest: words rotated, the constants, a string with the bytes that are added to it.
-/
import Derived.Test.YtledkokhghjfmaaGreatDoorPS11
import Derived.Test.YtledkokhghjfmaaGreatDoorPS10
namespace Go.Proofs.YtledkokhghjfmaaGreatDoor
open Go.RowKit Go.Lib
structure RwY (w0 W:World) (e:TypeId) (v:Value) (cs:List Value):Prop where
 row:W.ownsRow 0 e 1 v cs.length cs
 young:∀ g,v.ownBlock=some g→w0.heap.size≤g
 fr:Fr [] w0 W
def lenV2:Value→Nat
 | .slice _ n _=>n
 | _=>0
abbrev u32C (l:List Int):List Value:=l.map (Value.int .u32)
end Go.Proofs.YtledkokhghjfmaaGreatDoor
