/-
  No cell of these rows narrows 'for every input' (looked for: loops, veiled, ifaces, maps, wideKeys, modest, calm, conditions, laid).
  DERIVED. THE GIVEN ROWS OF THIS SEAT. 8 by the template 'for every input the law returns true; each argument reads behind the call as it read before'; 0 by the template 'total and deterministic' (their statements: YticaoeliokkifaaTotals.lean).
  GIVEN WITH THE SEED: the statements are not yours to turn. If you find one false, say at which input.
  Laid BY PROGRAM, IN A SANDBOX (cutbox-rows.mjs): the forced cells as the released guide's own fill.sh prints them over the translation 2e671569306ad25f… (all of the seat's roots in one cut). By AI agents, Wed Nov 11 2026. No macro, syntax, notation, axiom, sorry.
-/
import Derived.Test.YticaoeliokkifaaChecked
import GoSem.Claim
import GoSem.ClaimJoined
import GoSem.ClaimMapViews
import Derived.JoinedTies
import Derived.KernelRfl
namespace Go.Proofs.Yticaoeliokkifaa
/- THE CELL 'sum', in the pinned program and in every row, IS THE sha256 OF THE DUMP (.gsa) THAT YticaoeliokkifaaProg.lean LOADS. Nothing in Lean hashes anything: it is a label: what it is worth is what the hold of that sum in a sandbox is worth. -/
noncomputable def Try.pinned : Pinned := { name := "yticaoeliokkifaa", sum := "2e671569306ad25f53224bd234160f28f1dac7092606cb243eb04ebd848f0ab1", checked := Try.checked }
namespace Rows
def none {H : Type} : Left H := { results := [], args := [] }

/-- 'rickyardlaw06.KeyWrites': WHATEVER THE INPUT: true; the input reads as it did. -/
def keyWritesSpec : ChangeSpec := { name := "keyWrites", fn := fun _ => fun
  | [d1, d2] => { results := [.lit (.bool true)], args := [d1, d2] }
  | _ => none }
def keyWritesRow : OpenClaim := { program := "yticaoeliokkifaa", sum := "2e671569306ad25f53224bd234160f28f1dac7092606cb243eb04ebd848f0ab1", func := "rickyard/rickyardlaw06.KeyWrites", spec := "keyWrites", unfollowed := true, recurses := true, apart := false }
def KeyWritesSaid : Prop := keyWritesRow.holds Try.pinned (OpenSpec.ofChange keyWritesSpec)

/-- ITS FALSE NEIGHBOUR: 'it returns false'. Refute it at one input. -/
def keyWritesWrong : ChangeSpec := { name := "keyWrites", fn := fun _ => fun
  | [d1, d2] => { results := [.lit (.bool false)], args := [d1, d2] }
  | _ => none }
def KeyWritesWrongFalsely : Prop := keyWritesRow.holds Try.pinned (OpenSpec.ofChange keyWritesWrong)

/-- 'rickyardlaw06.KeyBack': WHATEVER THE INPUT: true; the input reads as it did. -/
def keyBackSpec : ChangeSpec := { name := "keyBack", fn := fun _ => fun
  | [d1, d2] => { results := [.lit (.bool true)], args := [d1, d2] }
  | _ => none }
def keyBackRow : OpenClaim := { program := "yticaoeliokkifaa", sum := "2e671569306ad25f53224bd234160f28f1dac7092606cb243eb04ebd848f0ab1", func := "rickyard/rickyardlaw06.KeyBack", spec := "keyBack", unfollowed := true, recurses := true, apart := false }
def KeyBackSaid : Prop := keyBackRow.holds Try.pinned (OpenSpec.ofChange keyBackSpec)

/-- ITS FALSE NEIGHBOUR: 'it returns false'. Refute it at one input. -/
def keyBackWrong : ChangeSpec := { name := "keyBack", fn := fun _ => fun
  | [d1, d2] => { results := [.lit (.bool false)], args := [d1, d2] }
  | _ => none }
def KeyBackWrongFalsely : Prop := keyBackRow.holds Try.pinned (OpenSpec.ofChange keyBackWrong)

/-- 'rickyardlaw06.KeyParts': WHATEVER THE INPUT: true; the input reads as it did. -/
def keyPartsSpec : ChangeSpec := { name := "keyParts", fn := fun _ => fun
  | [d1, d2] => { results := [.lit (.bool true)], args := [d1, d2] }
  | _ => none }
def keyPartsRow : OpenClaim := { program := "yticaoeliokkifaa", sum := "2e671569306ad25f53224bd234160f28f1dac7092606cb243eb04ebd848f0ab1", func := "rickyard/rickyardlaw06.KeyParts", spec := "keyParts", unfollowed := true, recurses := true, apart := false }
def KeyPartsSaid : Prop := keyPartsRow.holds Try.pinned (OpenSpec.ofChange keyPartsSpec)

/-- ITS FALSE NEIGHBOUR: 'it returns false'. Refute it at one input. -/
def keyPartsWrong : ChangeSpec := { name := "keyParts", fn := fun _ => fun
  | [d1, d2] => { results := [.lit (.bool false)], args := [d1, d2] }
  | _ => none }
def KeyPartsWrongFalsely : Prop := keyPartsRow.holds Try.pinned (OpenSpec.ofChange keyPartsWrong)

/-- 'rickyardlaw06.KeyTimes': WHATEVER THE INPUT: true; the input reads as it did. -/
def keyTimesSpec : ChangeSpec := { name := "keyTimes", fn := fun _ => fun
  | [d1, d2, d3, d4, d5, d6] => { results := [.lit (.bool true)], args := [d1, d2, d3, d4, d5, d6] }
  | _ => none }
def keyTimesRow : OpenClaim := { program := "yticaoeliokkifaa", sum := "2e671569306ad25f53224bd234160f28f1dac7092606cb243eb04ebd848f0ab1", func := "rickyard/rickyardlaw06.KeyTimes", spec := "keyTimes", unfollowed := true, recurses := true, apart := false }
def KeyTimesSaid : Prop := keyTimesRow.holds Try.pinned (OpenSpec.ofChange keyTimesSpec)

/-- ITS FALSE NEIGHBOUR: 'it returns false'. Refute it at one input. -/
def keyTimesWrong : ChangeSpec := { name := "keyTimes", fn := fun _ => fun
  | [d1, d2, d3, d4, d5, d6] => { results := [.lit (.bool false)], args := [d1, d2, d3, d4, d5, d6] }
  | _ => none }
def KeyTimesWrongFalsely : Prop := keyTimesRow.holds Try.pinned (OpenSpec.ofChange keyTimesWrong)

/-- 'rickyardlaw06.KeyGroups': WHATEVER THE INPUT: true; the input reads as it did. -/
def keyGroupsSpec : ChangeSpec := { name := "keyGroups", fn := fun _ => fun
  | [d1, d2] => { results := [.lit (.bool true)], args := [d1, d2] }
  | _ => none }
def keyGroupsRow : OpenClaim := { program := "yticaoeliokkifaa", sum := "2e671569306ad25f53224bd234160f28f1dac7092606cb243eb04ebd848f0ab1", func := "rickyard/rickyardlaw06.KeyGroups", spec := "keyGroups", unfollowed := true, recurses := true, apart := false }
def KeyGroupsSaid : Prop := keyGroupsRow.holds Try.pinned (OpenSpec.ofChange keyGroupsSpec)

/-- ITS FALSE NEIGHBOUR: 'it returns false'. Refute it at one input. -/
def keyGroupsWrong : ChangeSpec := { name := "keyGroups", fn := fun _ => fun
  | [d1, d2] => { results := [.lit (.bool false)], args := [d1, d2] }
  | _ => none }
def KeyGroupsWrongFalsely : Prop := keyGroupsRow.holds Try.pinned (OpenSpec.ofChange keyGroupsWrong)

/-- 'rickyardlaw06.KeyOrdered': WHATEVER THE INPUT: true; the input reads as it did. -/
def keyOrderedSpec : ChangeSpec := { name := "keyOrdered", fn := fun _ => fun
  | [d1, d2] => { results := [.lit (.bool true)], args := [d1, d2] }
  | _ => none }
def keyOrderedRow : OpenClaim := { program := "yticaoeliokkifaa", sum := "2e671569306ad25f53224bd234160f28f1dac7092606cb243eb04ebd848f0ab1", func := "rickyard/rickyardlaw06.KeyOrdered", spec := "keyOrdered", unfollowed := true, recurses := true, apart := false }
def KeyOrderedSaid : Prop := keyOrderedRow.holds Try.pinned (OpenSpec.ofChange keyOrderedSpec)

/-- ITS FALSE NEIGHBOUR: 'it returns false'. Refute it at one input. -/
def keyOrderedWrong : ChangeSpec := { name := "keyOrdered", fn := fun _ => fun
  | [d1, d2] => { results := [.lit (.bool false)], args := [d1, d2] }
  | _ => none }
def KeyOrderedWrongFalsely : Prop := keyOrderedRow.holds Try.pinned (OpenSpec.ofChange keyOrderedWrong)

/-- 'rickyardlaw06.KeyTotal': WHATEVER THE INPUT: true; the input reads as it did. -/
def keyTotalSpec : ChangeSpec := { name := "keyTotal", fn := fun _ => fun
  | [d1, d2, d3] => { results := [.lit (.bool true)], args := [d1, d2, d3] }
  | _ => none }
def keyTotalRow : OpenClaim := { program := "yticaoeliokkifaa", sum := "2e671569306ad25f53224bd234160f28f1dac7092606cb243eb04ebd848f0ab1", func := "rickyard/rickyardlaw06.KeyTotal", spec := "keyTotal", unfollowed := true, recurses := true, apart := false }
def KeyTotalSaid : Prop := keyTotalRow.holds Try.pinned (OpenSpec.ofChange keyTotalSpec)

/-- ITS FALSE NEIGHBOUR: 'it returns false'. Refute it at one input. -/
def keyTotalWrong : ChangeSpec := { name := "keyTotal", fn := fun _ => fun
  | [d1, d2, d3] => { results := [.lit (.bool false)], args := [d1, d2, d3] }
  | _ => none }
def KeyTotalWrongFalsely : Prop := keyTotalRow.holds Try.pinned (OpenSpec.ofChange keyTotalWrong)

/-- 'rickyardlaw06.KeyOrders': WHATEVER THE INPUT: true; the input reads as it did. -/
def keyOrdersSpec : ChangeSpec := { name := "keyOrders", fn := fun _ => fun
  | [d1, d2, d3] => { results := [.lit (.bool true)], args := [d1, d2, d3] }
  | _ => none }
def keyOrdersRow : OpenClaim := { program := "yticaoeliokkifaa", sum := "2e671569306ad25f53224bd234160f28f1dac7092606cb243eb04ebd848f0ab1", func := "rickyard/rickyardlaw06.KeyOrders", spec := "keyOrders", unfollowed := true, recurses := true, apart := false }
def KeyOrdersSaid : Prop := keyOrdersRow.holds Try.pinned (OpenSpec.ofChange keyOrdersSpec)

/-- ITS FALSE NEIGHBOUR: 'it returns false'. Refute it at one input. -/
def keyOrdersWrong : ChangeSpec := { name := "keyOrders", fn := fun _ => fun
  | [d1, d2, d3] => { results := [.lit (.bool false)], args := [d1, d2, d3] }
  | _ => none }
def KeyOrdersWrongFalsely : Prop := keyOrdersRow.holds Try.pinned (OpenSpec.ofChange keyOrdersWrong)

/- THE SECOND FORM. 'bulk': how many values and letters a reading holds, each counted each time it is reached (what is shared counts as often as it is met; a slice's spare places count too). A statement '..UptoSaid' is the law's where the arguments, and the package variables that the reading takes, are together of bulk at most 1048576: NARROWER than '..Said'. Prove '..Said' where nothing that the law and all that it calls make is longer than what came in: it says more and counts as full. Else prove '..UptoSaid'. A law counts once. -/
mutual
def uptoBulk {H : Type} : DataW H → Nat
  | .lit (.string bytes) => bytes.length + 1
  | .lit _ => 1
  | .nil => 1
  | .ptr d => uptoBulk d + 1
  | .slice elems spare => uptoBulkAll elems + uptoBulkAll spare + 1
  | .agg parts => uptoBulkAll parts + 1
  | .iface _ d => uptoBulk d + 1
  | .map entries => uptoBulkEntries entries + 1
  | .held _ => 1
def uptoBulkAll {H : Type} : List (DataW H) → Nat
  | [] => 0
  | d :: r => uptoBulk d + uptoBulkAll r
def uptoBulkEntries {H : Type} : List (Lit × DataW H) → Nat
  | [] => 0
  | x :: r => uptoBulkEntry x + uptoBulkEntries r
def uptoBulkEntry {H : Type} : Lit × DataW H → Nat
  | (.string bytes, d) => bytes.length + uptoBulk d + 1
  | (_, d) => uptoBulk d + 1
 end
def uptoSmall : (H : Type) → List (DataW H) → Bool := fun _ ds => decide (uptoBulkAll ds ≤ 1048576)
def OpenSpec.upto (s : _root_.Go.ChangeSpec) : _root_.Go.OpenSpec := { _root_.Go.OpenSpec.ofChange s with cond := some uptoSmall }

/-- 'rickyardlaw06.KeyWrites', WHERE WHAT IT READS IS OF BULK AT MOST 1048576: true; the input reads as it did. -/
def keyWritesUptoRow : OpenClaim := { program := "yticaoeliokkifaa", sum := "2e671569306ad25f53224bd234160f28f1dac7092606cb243eb04ebd848f0ab1", func := "rickyard/rickyardlaw06.KeyWrites", spec := "keyWrites", unfollowed := true, recurses := true, apart := false, narrowed := true }
def KeyWritesUptoSaid : Prop := keyWritesUptoRow.holds Try.pinned (OpenSpec.upto keyWritesSpec)

/-- 'rickyardlaw06.KeyBack', WHERE WHAT IT READS IS OF BULK AT MOST 1048576: true; the input reads as it did. -/
def keyBackUptoRow : OpenClaim := { program := "yticaoeliokkifaa", sum := "2e671569306ad25f53224bd234160f28f1dac7092606cb243eb04ebd848f0ab1", func := "rickyard/rickyardlaw06.KeyBack", spec := "keyBack", unfollowed := true, recurses := true, apart := false, narrowed := true }
def KeyBackUptoSaid : Prop := keyBackUptoRow.holds Try.pinned (OpenSpec.upto keyBackSpec)

/-- 'rickyardlaw06.KeyParts', WHERE WHAT IT READS IS OF BULK AT MOST 1048576: true; the input reads as it did. -/
def keyPartsUptoRow : OpenClaim := { program := "yticaoeliokkifaa", sum := "2e671569306ad25f53224bd234160f28f1dac7092606cb243eb04ebd848f0ab1", func := "rickyard/rickyardlaw06.KeyParts", spec := "keyParts", unfollowed := true, recurses := true, apart := false, narrowed := true }
def KeyPartsUptoSaid : Prop := keyPartsUptoRow.holds Try.pinned (OpenSpec.upto keyPartsSpec)

/-- 'rickyardlaw06.KeyTimes', WHERE WHAT IT READS IS OF BULK AT MOST 1048576: true; the input reads as it did. -/
def keyTimesUptoRow : OpenClaim := { program := "yticaoeliokkifaa", sum := "2e671569306ad25f53224bd234160f28f1dac7092606cb243eb04ebd848f0ab1", func := "rickyard/rickyardlaw06.KeyTimes", spec := "keyTimes", unfollowed := true, recurses := true, apart := false, narrowed := true }
def KeyTimesUptoSaid : Prop := keyTimesUptoRow.holds Try.pinned (OpenSpec.upto keyTimesSpec)

/-- 'rickyardlaw06.KeyGroups', WHERE WHAT IT READS IS OF BULK AT MOST 1048576: true; the input reads as it did. -/
def keyGroupsUptoRow : OpenClaim := { program := "yticaoeliokkifaa", sum := "2e671569306ad25f53224bd234160f28f1dac7092606cb243eb04ebd848f0ab1", func := "rickyard/rickyardlaw06.KeyGroups", spec := "keyGroups", unfollowed := true, recurses := true, apart := false, narrowed := true }
def KeyGroupsUptoSaid : Prop := keyGroupsUptoRow.holds Try.pinned (OpenSpec.upto keyGroupsSpec)

/-- 'rickyardlaw06.KeyOrdered', WHERE WHAT IT READS IS OF BULK AT MOST 1048576: true; the input reads as it did. -/
def keyOrderedUptoRow : OpenClaim := { program := "yticaoeliokkifaa", sum := "2e671569306ad25f53224bd234160f28f1dac7092606cb243eb04ebd848f0ab1", func := "rickyard/rickyardlaw06.KeyOrdered", spec := "keyOrdered", unfollowed := true, recurses := true, apart := false, narrowed := true }
def KeyOrderedUptoSaid : Prop := keyOrderedUptoRow.holds Try.pinned (OpenSpec.upto keyOrderedSpec)

/-- 'rickyardlaw06.KeyTotal', WHERE WHAT IT READS IS OF BULK AT MOST 1048576: true; the input reads as it did. -/
def keyTotalUptoRow : OpenClaim := { program := "yticaoeliokkifaa", sum := "2e671569306ad25f53224bd234160f28f1dac7092606cb243eb04ebd848f0ab1", func := "rickyard/rickyardlaw06.KeyTotal", spec := "keyTotal", unfollowed := true, recurses := true, apart := false, narrowed := true }
def KeyTotalUptoSaid : Prop := keyTotalUptoRow.holds Try.pinned (OpenSpec.upto keyTotalSpec)

/-- 'rickyardlaw06.KeyOrders', WHERE WHAT IT READS IS OF BULK AT MOST 1048576: true; the input reads as it did. -/
def keyOrdersUptoRow : OpenClaim := { program := "yticaoeliokkifaa", sum := "2e671569306ad25f53224bd234160f28f1dac7092606cb243eb04ebd848f0ab1", func := "rickyard/rickyardlaw06.KeyOrders", spec := "keyOrders", unfollowed := true, recurses := true, apart := false, narrowed := true }
def KeyOrdersUptoSaid : Prop := keyOrdersUptoRow.holds Try.pinned (OpenSpec.upto keyOrdersSpec)

end Rows
end Go.Proofs.Yticaoeliokkifaa
