/-
  No cell of these rows narrows 'for every input' (looked for: loops, veiled, ifaces, maps, wideKeys, modest, calm, conditions, laid).
  DERIVED. THE GIVEN ROWS OF THIS SEAT. 6 by the template 'for every input the law returns true; each argument reads behind the call as it read before'; 0 by the template 'total and deterministic' (their statements: YtkopnooajikpmaaGreatTotals.lean).
  GIVEN WITH THE SEED: the statements are not yours to turn. If you find one false, say at which input.
  Laid BY PROGRAM, IN A SANDBOX (cutbox-rows.mjs): the forced cells as the released guide's own fill.sh prints them over the translation 93012873755b1c53… (all of the seat's roots in one cut). By AI agents, Wed Nov 11 2026. No macro, syntax, notation, axiom, sorry.
-/
import Derived.Test.YtkopnooajikpmaaGreatChecked
import GoSem.Claim
import GoSem.ClaimJoined
import GoSem.ClaimMapViews
import Derived.JoinedTies
import Derived.KernelRfl
namespace Go.Proofs.YtkopnooajikpmaaGreat
/- THE CELL 'sum', in the pinned program and in every row, IS THE sha256 OF THE DUMP (.gsa) THAT YtkopnooajikpmaaGreatProg.lean LOADS. Nothing in Lean hashes anything: it is a label: what it is worth is what the hold of that sum in a sandbox is worth. -/
noncomputable def Tryz.pinned : Pinned := { name := "ytkopnooajikpmaagreat", sum := "93012873755b1c533cd4337d56bd36eb5ac23453c2d3deff04fcb1f6b6c2bee9", checked := Tryz.checked }
namespace Rows
def none {H : Type} : Left H := { results := [], args := [] }

/-- 'dialtonelaw08.StatuteMatchesReference': WHATEVER THE INPUT: true; the input reads as it did. -/
def statuteMatchesReferenceSpec : ChangeSpec := { name := "statuteMatchesReference", fn := fun _ => fun
  | [d1, d2, d3, d4, d5, d6, d7, d8] => { results := [.lit (.bool true)], args := [d1, d2, d3, d4, d5, d6, d7, d8] }
  | _ => none }
def statuteMatchesReferenceRow : OpenClaim := { program := "ytkopnooajikpmaagreat", sum := "93012873755b1c533cd4337d56bd36eb5ac23453c2d3deff04fcb1f6b6c2bee9", func := "dialtone/dialtonelaw08.StatuteMatchesReference", spec := "statuteMatchesReference", unfollowed := true, recurses := true, apart := false }
def StatuteMatchesReferenceSaid : Prop := statuteMatchesReferenceRow.holds Tryz.pinned (OpenSpec.ofChange statuteMatchesReferenceSpec)

/-- ITS FALSE NEIGHBOUR: 'it returns false'. Refute it at one input. -/
def statuteMatchesReferenceWrong : ChangeSpec := { name := "statuteMatchesReference", fn := fun _ => fun
  | [d1, d2, d3, d4, d5, d6, d7, d8] => { results := [.lit (.bool false)], args := [d1, d2, d3, d4, d5, d6, d7, d8] }
  | _ => none }
def StatuteMatchesReferenceWrongFalsely : Prop := statuteMatchesReferenceRow.holds Tryz.pinned (OpenSpec.ofChange statuteMatchesReferenceWrong)

/-- 'dialtonelaw26.FilterDecides': WHATEVER THE INPUT: true; the input reads as it did. -/
def filterDecidesSpec : ChangeSpec := { name := "filterDecides", fn := fun _ => fun
  | [d1, d2, d3, d4, d5, d6, d7] => { results := [.lit (.bool true)], args := [d1, d2, d3, d4, d5, d6, d7] }
  | _ => none }
def filterDecidesRow : OpenClaim := { program := "ytkopnooajikpmaagreat", sum := "93012873755b1c533cd4337d56bd36eb5ac23453c2d3deff04fcb1f6b6c2bee9", func := "dialtone/dialtonelaw26.FilterDecides", spec := "filterDecides", unfollowed := true, recurses := true, apart := false }
def FilterDecidesSaid : Prop := filterDecidesRow.holds Tryz.pinned (OpenSpec.ofChange filterDecidesSpec)

/-- ITS FALSE NEIGHBOUR: 'it returns false'. Refute it at one input. -/
def filterDecidesWrong : ChangeSpec := { name := "filterDecides", fn := fun _ => fun
  | [d1, d2, d3, d4, d5, d6, d7] => { results := [.lit (.bool false)], args := [d1, d2, d3, d4, d5, d6, d7] }
  | _ => none }
def FilterDecidesWrongFalsely : Prop := filterDecidesRow.holds Tryz.pinned (OpenSpec.ofChange filterDecidesWrong)

/-- 'dialtonelaw26.FilterFirst': WHATEVER THE INPUT: true; the input reads as it did. -/
def filterFirstSpec : ChangeSpec := { name := "filterFirst", fn := fun _ => fun
  | [d1, d2, d3, d4, d5, d6, d7] => { results := [.lit (.bool true)], args := [d1, d2, d3, d4, d5, d6, d7] }
  | _ => none }
def filterFirstRow : OpenClaim := { program := "ytkopnooajikpmaagreat", sum := "93012873755b1c533cd4337d56bd36eb5ac23453c2d3deff04fcb1f6b6c2bee9", func := "dialtone/dialtonelaw26.FilterFirst", spec := "filterFirst", unfollowed := true, recurses := true, apart := false }
def FilterFirstSaid : Prop := filterFirstRow.holds Tryz.pinned (OpenSpec.ofChange filterFirstSpec)

/-- ITS FALSE NEIGHBOUR: 'it returns false'. Refute it at one input. -/
def filterFirstWrong : ChangeSpec := { name := "filterFirst", fn := fun _ => fun
  | [d1, d2, d3, d4, d5, d6, d7] => { results := [.lit (.bool false)], args := [d1, d2, d3, d4, d5, d6, d7] }
  | _ => none }
def FilterFirstWrongFalsely : Prop := filterFirstRow.holds Tryz.pinned (OpenSpec.ofChange filterFirstWrong)

/-- 'dialtonelaw26.FilterKnown': WHATEVER THE INPUT: true; the input reads as it did. -/
def filterKnownSpec : ChangeSpec := { name := "filterKnown", fn := fun _ => fun
  | [d1, d2, d3, d4, d5, d6, d7, d8] => { results := [.lit (.bool true)], args := [d1, d2, d3, d4, d5, d6, d7, d8] }
  | _ => none }
def filterKnownRow : OpenClaim := { program := "ytkopnooajikpmaagreat", sum := "93012873755b1c533cd4337d56bd36eb5ac23453c2d3deff04fcb1f6b6c2bee9", func := "dialtone/dialtonelaw26.FilterKnown", spec := "filterKnown", unfollowed := true, recurses := true, apart := false }
def FilterKnownSaid : Prop := filterKnownRow.holds Tryz.pinned (OpenSpec.ofChange filterKnownSpec)

/-- ITS FALSE NEIGHBOUR: 'it returns false'. Refute it at one input. -/
def filterKnownWrong : ChangeSpec := { name := "filterKnown", fn := fun _ => fun
  | [d1, d2, d3, d4, d5, d6, d7, d8] => { results := [.lit (.bool false)], args := [d1, d2, d3, d4, d5, d6, d7, d8] }
  | _ => none }
def FilterKnownWrongFalsely : Prop := filterKnownRow.holds Tryz.pinned (OpenSpec.ofChange filterKnownWrong)

/-- 'dialtonelaw26.FilterDays': WHATEVER THE INPUT: true; the input reads as it did. -/
def filterDaysSpec : ChangeSpec := { name := "filterDays", fn := fun _ => fun
  | [d1, d2, d3, d4, d5] => { results := [.lit (.bool true)], args := [d1, d2, d3, d4, d5] }
  | _ => none }
def filterDaysRow : OpenClaim := { program := "ytkopnooajikpmaagreat", sum := "93012873755b1c533cd4337d56bd36eb5ac23453c2d3deff04fcb1f6b6c2bee9", func := "dialtone/dialtonelaw26.FilterDays", spec := "filterDays", unfollowed := true, recurses := true, apart := false }
def FilterDaysSaid : Prop := filterDaysRow.holds Tryz.pinned (OpenSpec.ofChange filterDaysSpec)

/-- ITS FALSE NEIGHBOUR: 'it returns false'. Refute it at one input. -/
def filterDaysWrong : ChangeSpec := { name := "filterDays", fn := fun _ => fun
  | [d1, d2, d3, d4, d5] => { results := [.lit (.bool false)], args := [d1, d2, d3, d4, d5] }
  | _ => none }
def FilterDaysWrongFalsely : Prop := filterDaysRow.holds Tryz.pinned (OpenSpec.ofChange filterDaysWrong)

/-- 'dialtonelaw26.FilterTurned': WHATEVER THE INPUT: true; the input reads as it did. -/
def filterTurnedSpec : ChangeSpec := { name := "filterTurned", fn := fun _ => fun
  | [d1, d2, d3, d4, d5, d6, d7] => { results := [.lit (.bool true)], args := [d1, d2, d3, d4, d5, d6, d7] }
  | _ => none }
def filterTurnedRow : OpenClaim := { program := "ytkopnooajikpmaagreat", sum := "93012873755b1c533cd4337d56bd36eb5ac23453c2d3deff04fcb1f6b6c2bee9", func := "dialtone/dialtonelaw26.FilterTurned", spec := "filterTurned", unfollowed := true, recurses := true, apart := false }
def FilterTurnedSaid : Prop := filterTurnedRow.holds Tryz.pinned (OpenSpec.ofChange filterTurnedSpec)

/-- ITS FALSE NEIGHBOUR: 'it returns false'. Refute it at one input. -/
def filterTurnedWrong : ChangeSpec := { name := "filterTurned", fn := fun _ => fun
  | [d1, d2, d3, d4, d5, d6, d7] => { results := [.lit (.bool false)], args := [d1, d2, d3, d4, d5, d6, d7] }
  | _ => none }
def FilterTurnedWrongFalsely : Prop := filterTurnedRow.holds Tryz.pinned (OpenSpec.ofChange filterTurnedWrong)

/- THE SECOND FORM. 'bulk': how many values and letters a reading holds, each counted each time it is reached (what is shared counts as often as it is met; a slice's spare places count too). A statement '..UptoSaid' is the law's where the arguments, and the package variables that the reading takes, are together of bulk at most 1048576: NARROWER than '..Said'. Prove '..Said' where nothing that the law and all that it calls make is longer than what came in: it says more and counts as full. Else prove '..UptoSaid'. A law counts once. -/
mutual
def uptoBulk {H : Type} : DataW H → Nat
  | .lit (.string bytes) => bytes.length + 1
  | .lit _ => 1
  | .nil => 1
  | .ptr d => uptoBulk d + 1
  | .slice elems spare => uptoBulkAll elems + uptoBulkAll spare + 1
  | .agg parts => uptoBulkAll parts + 1
  | .iface _ d => uptoBulk d + 1
  | .map entries => uptoBulkEntries entries + 1
  | .held _ => 1
def uptoBulkAll {H : Type} : List (DataW H) → Nat
  | [] => 0
  | d :: r => uptoBulk d + uptoBulkAll r
def uptoBulkEntries {H : Type} : List (Lit × DataW H) → Nat
  | [] => 0
  | x :: r => uptoBulkEntry x + uptoBulkEntries r
def uptoBulkEntry {H : Type} : Lit × DataW H → Nat
  | (.string bytes, d) => bytes.length + uptoBulk d + 1
  | (_, d) => uptoBulk d + 1
 end
def uptoSmall : (H : Type) → List (DataW H) → Bool := fun _ ds => decide (uptoBulkAll ds ≤ 1048576)
def OpenSpec.upto (s : _root_.Go.ChangeSpec) : _root_.Go.OpenSpec := { _root_.Go.OpenSpec.ofChange s with cond := some uptoSmall }

/-- 'dialtonelaw08.StatuteMatchesReference', WHERE WHAT IT READS IS OF BULK AT MOST 1048576: true; the input reads as it did. -/
def statuteMatchesReferenceUptoRow : OpenClaim := { program := "ytkopnooajikpmaagreat", sum := "93012873755b1c533cd4337d56bd36eb5ac23453c2d3deff04fcb1f6b6c2bee9", func := "dialtone/dialtonelaw08.StatuteMatchesReference", spec := "statuteMatchesReference", unfollowed := true, recurses := true, apart := false, narrowed := true }
def StatuteMatchesReferenceUptoSaid : Prop := statuteMatchesReferenceUptoRow.holds Tryz.pinned (OpenSpec.upto statuteMatchesReferenceSpec)

/-- 'dialtonelaw26.FilterDecides', WHERE WHAT IT READS IS OF BULK AT MOST 1048576: true; the input reads as it did. -/
def filterDecidesUptoRow : OpenClaim := { program := "ytkopnooajikpmaagreat", sum := "93012873755b1c533cd4337d56bd36eb5ac23453c2d3deff04fcb1f6b6c2bee9", func := "dialtone/dialtonelaw26.FilterDecides", spec := "filterDecides", unfollowed := true, recurses := true, apart := false, narrowed := true }
def FilterDecidesUptoSaid : Prop := filterDecidesUptoRow.holds Tryz.pinned (OpenSpec.upto filterDecidesSpec)

/-- 'dialtonelaw26.FilterFirst', WHERE WHAT IT READS IS OF BULK AT MOST 1048576: true; the input reads as it did. -/
def filterFirstUptoRow : OpenClaim := { program := "ytkopnooajikpmaagreat", sum := "93012873755b1c533cd4337d56bd36eb5ac23453c2d3deff04fcb1f6b6c2bee9", func := "dialtone/dialtonelaw26.FilterFirst", spec := "filterFirst", unfollowed := true, recurses := true, apart := false, narrowed := true }
def FilterFirstUptoSaid : Prop := filterFirstUptoRow.holds Tryz.pinned (OpenSpec.upto filterFirstSpec)

/-- 'dialtonelaw26.FilterKnown', WHERE WHAT IT READS IS OF BULK AT MOST 1048576: true; the input reads as it did. -/
def filterKnownUptoRow : OpenClaim := { program := "ytkopnooajikpmaagreat", sum := "93012873755b1c533cd4337d56bd36eb5ac23453c2d3deff04fcb1f6b6c2bee9", func := "dialtone/dialtonelaw26.FilterKnown", spec := "filterKnown", unfollowed := true, recurses := true, apart := false, narrowed := true }
def FilterKnownUptoSaid : Prop := filterKnownUptoRow.holds Tryz.pinned (OpenSpec.upto filterKnownSpec)

/-- 'dialtonelaw26.FilterDays', WHERE WHAT IT READS IS OF BULK AT MOST 1048576: true; the input reads as it did. -/
def filterDaysUptoRow : OpenClaim := { program := "ytkopnooajikpmaagreat", sum := "93012873755b1c533cd4337d56bd36eb5ac23453c2d3deff04fcb1f6b6c2bee9", func := "dialtone/dialtonelaw26.FilterDays", spec := "filterDays", unfollowed := true, recurses := true, apart := false, narrowed := true }
def FilterDaysUptoSaid : Prop := filterDaysUptoRow.holds Tryz.pinned (OpenSpec.upto filterDaysSpec)

/-- 'dialtonelaw26.FilterTurned', WHERE WHAT IT READS IS OF BULK AT MOST 1048576: true; the input reads as it did. -/
def filterTurnedUptoRow : OpenClaim := { program := "ytkopnooajikpmaagreat", sum := "93012873755b1c533cd4337d56bd36eb5ac23453c2d3deff04fcb1f6b6c2bee9", func := "dialtone/dialtonelaw26.FilterTurned", spec := "filterTurned", unfollowed := true, recurses := true, apart := false, narrowed := true }
def FilterTurnedUptoSaid : Prop := filterTurnedUptoRow.holds Tryz.pinned (OpenSpec.upto filterTurnedSpec)

end Rows
end Go.Proofs.YtkopnooajikpmaaGreat
