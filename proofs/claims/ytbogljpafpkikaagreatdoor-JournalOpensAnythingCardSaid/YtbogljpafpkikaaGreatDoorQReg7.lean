/-
  A region that draws its order, as a tree of orders (Reg5.lean), where the way out by a panic does not look at the temporaries.
-/
import Derived.Test.YtbogljpafpkikaaGreatDoorQRg
namespace Go.Proofs.YtbogljpafpkikaaGreatDoor

theorem reg_treeP {P : Program} {Q : Exit → Act → World → Prop} {id : Nat} {a : Act} {w : World} {l : List Oper} (S : World → Prop) (fin : Nat) (t : OrdT) (hm : P.follows .mixedOrders = true) (hs : Region.noSelect l.toArray = true) (hp : permT l.toArray fin t (Array.replicate l.toArray.size false) = true) (hl : t.len = l.toArray.size)
    (hQ : ∀ (d : Option Tmp) (v : Value) c a w, Q (.panic c) (a.put d v) w → Q (.panic c) a w) (h : wpTree P l.toArray Q S fin t a w.drew) : (Code.region id l.toArray true).wp P Q a w := by
  have hc : Closed l.toArray (Array.replicate l.toArray.size false) := fun k o _ hk => by
    exfalso
    rw [Array.getD_eq_getD_getElem?, Array.getElem?_replicate] at hk
    split at hk <;> cases hk
  have h2 := wpAnyF_of_tree hs hQ t _ a _ hp hc h
  rw [hl] at h2
  exact wp_region_any hm (wpAny_of_F _ _ _ _ h2)

end Go.Proofs.YtbogljpafpkikaaGreatDoor
