/-
  No cell of these rows narrows 'for every input' (looked for: loops, veiled, ifaces, maps, wideKeys, modest, calm, conditions, laid).
  DERIVED. THE GIVEN ROWS OF THIS SEAT. 7 by the template 'for every input the law returns true; each argument reads behind the call as it read before'; 0 by the template 'total and deterministic' (their statements: YtjgcllkcppmmaaaTotals.lean).
  GIVEN WITH THE SEED: the statements are not yours to turn. If you find one false, say at which input.
  Laid BY PROGRAM, IN A SANDBOX (cutbox-rows.mjs): the forced cells as the released guide's own fill.sh prints them over the translation f3255469cf028e96… (all of the seat's roots in one cut). By AI agents, Wed Nov 11 2026. No macro, syntax, notation, axiom, sorry.
-/
import Derived.Test.YtjgcllkcppmmaaaChecked
import GoSem.Claim
import GoSem.ClaimJoined
import GoSem.ClaimMapViews
import Derived.JoinedTies
import Derived.KernelRfl
namespace Go.Proofs.Ytjgcllkcppmmaaa
/- THE CELL 'sum', in the pinned program and in every row, IS THE sha256 OF THE DUMP (.gsa) THAT YtjgcllkcppmmaaaProg.lean LOADS. Nothing in Lean hashes anything: it is a label: what it is worth is what the hold of that sum in a sandbox is worth. -/
noncomputable def Try.pinned : Pinned := { name := "ytjgcllkcppmmaaa", sum := "f3255469cf028e96a678dd9d95ff9105670eeacc12b0f0b43bbbfe0c60e791c6", checked := Try.checked }
namespace Rows
def none {H : Type} : Left H := { results := [], args := [] }

/-- 'rickyardlaw04.CodeShorts': WHATEVER THE INPUT: true; the input reads as it did. -/
def codeShortsSpec : ChangeSpec := { name := "codeShorts", fn := fun _ => fun
  | [d1, d2] => { results := [.lit (.bool true)], args := [d1, d2] }
  | _ => none }
def codeShortsRow : OpenClaim := { program := "ytjgcllkcppmmaaa", sum := "f3255469cf028e96a678dd9d95ff9105670eeacc12b0f0b43bbbfe0c60e791c6", func := "rickyard/rickyardlaw04.CodeShorts", spec := "codeShorts", recurses := true, apart := false }
def CodeShortsSaid : Prop := codeShortsRow.holds Try.pinned (OpenSpec.ofChange codeShortsSpec)

/-- ITS FALSE NEIGHBOUR: 'it returns false'. Refute it at one input. -/
def codeShortsWrong : ChangeSpec := { name := "codeShorts", fn := fun _ => fun
  | [d1, d2] => { results := [.lit (.bool false)], args := [d1, d2] }
  | _ => none }
def CodeShortsWrongFalsely : Prop := codeShortsRow.holds Try.pinned (OpenSpec.ofChange codeShortsWrong)

/-- 'rickyardlaw04.CodeLengths': WHATEVER THE INPUT: true; the input reads as it did. -/
def codeLengthsSpec : ChangeSpec := { name := "codeLengths", fn := fun _ => fun
  | [d1, d2, d3] => { results := [.lit (.bool true)], args := [d1, d2, d3] }
  | _ => none }
def codeLengthsRow : OpenClaim := { program := "ytjgcllkcppmmaaa", sum := "f3255469cf028e96a678dd9d95ff9105670eeacc12b0f0b43bbbfe0c60e791c6", func := "rickyard/rickyardlaw04.CodeLengths", spec := "codeLengths", apart := false }
def CodeLengthsSaid : Prop := codeLengthsRow.holds Try.pinned (OpenSpec.ofChange codeLengthsSpec)

/-- ITS FALSE NEIGHBOUR: 'it returns false'. Refute it at one input. -/
def codeLengthsWrong : ChangeSpec := { name := "codeLengths", fn := fun _ => fun
  | [d1, d2, d3] => { results := [.lit (.bool false)], args := [d1, d2, d3] }
  | _ => none }
def CodeLengthsWrongFalsely : Prop := codeLengthsRow.holds Try.pinned (OpenSpec.ofChange codeLengthsWrong)

/-- 'rickyardlaw04.CodeLess': WHATEVER THE INPUT: true; the input reads as it did. -/
def codeLessSpec : ChangeSpec := { name := "codeLess", fn := fun _ => fun
  | [d1, d2, d3, d4] => { results := [.lit (.bool true)], args := [d1, d2, d3, d4] }
  | _ => none }
def codeLessRow : OpenClaim := { program := "ytjgcllkcppmmaaa", sum := "f3255469cf028e96a678dd9d95ff9105670eeacc12b0f0b43bbbfe0c60e791c6", func := "rickyard/rickyardlaw04.CodeLess", spec := "codeLess", apart := false }
def CodeLessSaid : Prop := codeLessRow.holds Try.pinned (OpenSpec.ofChange codeLessSpec)

/-- ITS FALSE NEIGHBOUR: 'it returns false'. Refute it at one input. -/
def codeLessWrong : ChangeSpec := { name := "codeLess", fn := fun _ => fun
  | [d1, d2, d3, d4] => { results := [.lit (.bool false)], args := [d1, d2, d3, d4] }
  | _ => none }
def CodeLessWrongFalsely : Prop := codeLessRow.holds Try.pinned (OpenSpec.ofChange codeLessWrong)

/-- 'rickyardlaw04.CodePairs': WHATEVER THE INPUT: true; the input reads as it did. -/
def codePairsSpec : ChangeSpec := { name := "codePairs", fn := fun _ => fun
  | [d1, d2, d3, d4] => { results := [.lit (.bool true)], args := [d1, d2, d3, d4] }
  | _ => none }
def codePairsRow : OpenClaim := { program := "ytjgcllkcppmmaaa", sum := "f3255469cf028e96a678dd9d95ff9105670eeacc12b0f0b43bbbfe0c60e791c6", func := "rickyard/rickyardlaw04.CodePairs", spec := "codePairs", apart := false }
def CodePairsSaid : Prop := codePairsRow.holds Try.pinned (OpenSpec.ofChange codePairsSpec)

/-- ITS FALSE NEIGHBOUR: 'it returns false'. Refute it at one input. -/
def codePairsWrong : ChangeSpec := { name := "codePairs", fn := fun _ => fun
  | [d1, d2, d3, d4] => { results := [.lit (.bool false)], args := [d1, d2, d3, d4] }
  | _ => none }
def CodePairsWrongFalsely : Prop := codePairsRow.holds Try.pinned (OpenSpec.ofChange codePairsWrong)

/-- 'rickyardlaw04.CodeTaken': WHATEVER THE INPUT: true; the input reads as it did. -/
def codeTakenSpec : ChangeSpec := { name := "codeTaken", fn := fun _ => fun
  | [d] => { results := [.lit (.bool true)], args := [d] }
  | _ => none }
def codeTakenRow : OpenClaim := { program := "ytjgcllkcppmmaaa", sum := "f3255469cf028e96a678dd9d95ff9105670eeacc12b0f0b43bbbfe0c60e791c6", func := "rickyard/rickyardlaw04.CodeTaken", spec := "codeTaken", apart := false }
def CodeTakenSaid : Prop := codeTakenRow.holds Try.pinned (OpenSpec.ofChange codeTakenSpec)

/-- ITS FALSE NEIGHBOUR: 'it returns false'. Refute it at one input. -/
def codeTakenWrong : ChangeSpec := { name := "codeTaken", fn := fun _ => fun
  | [d] => { results := [.lit (.bool false)], args := [d] }
  | _ => none }
def CodeTakenWrongFalsely : Prop := codeTakenRow.holds Try.pinned (OpenSpec.ofChange codeTakenWrong)

/-- 'rickyardlaw04.CodeOrders': WHATEVER THE INPUT: true; the input reads as it did. -/
def codeOrdersSpec : ChangeSpec := { name := "codeOrders", fn := fun _ => fun
  | [d1, d2, d3] => { results := [.lit (.bool true)], args := [d1, d2, d3] }
  | _ => none }
def codeOrdersRow : OpenClaim := { program := "ytjgcllkcppmmaaa", sum := "f3255469cf028e96a678dd9d95ff9105670eeacc12b0f0b43bbbfe0c60e791c6", func := "rickyard/rickyardlaw04.CodeOrders", spec := "codeOrders", apart := false }
def CodeOrdersSaid : Prop := codeOrdersRow.holds Try.pinned (OpenSpec.ofChange codeOrdersSpec)

/-- ITS FALSE NEIGHBOUR: 'it returns false'. Refute it at one input. -/
def codeOrdersWrong : ChangeSpec := { name := "codeOrders", fn := fun _ => fun
  | [d1, d2, d3] => { results := [.lit (.bool false)], args := [d1, d2, d3] }
  | _ => none }
def CodeOrdersWrongFalsely : Prop := codeOrdersRow.holds Try.pinned (OpenSpec.ofChange codeOrdersWrong)

/-- 'rickyardlaw04.CodeBack': WHATEVER THE INPUT: true; the input reads as it did. -/
def codeBackSpec : ChangeSpec := { name := "codeBack", fn := fun _ => fun
  | [d1, d2, d3, d4] => { results := [.lit (.bool true)], args := [d1, d2, d3, d4] }
  | _ => none }
def codeBackRow : OpenClaim := { program := "ytjgcllkcppmmaaa", sum := "f3255469cf028e96a678dd9d95ff9105670eeacc12b0f0b43bbbfe0c60e791c6", func := "rickyard/rickyardlaw04.CodeBack", spec := "codeBack", apart := false }
def CodeBackSaid : Prop := codeBackRow.holds Try.pinned (OpenSpec.ofChange codeBackSpec)

/-- ITS FALSE NEIGHBOUR: 'it returns false'. Refute it at one input. -/
def codeBackWrong : ChangeSpec := { name := "codeBack", fn := fun _ => fun
  | [d1, d2, d3, d4] => { results := [.lit (.bool false)], args := [d1, d2, d3, d4] }
  | _ => none }
def CodeBackWrongFalsely : Prop := codeBackRow.holds Try.pinned (OpenSpec.ofChange codeBackWrong)

/- THE SECOND FORM. 'bulk': how many values and letters a reading holds, each counted each time it is reached (what is shared counts as often as it is met; a slice's spare places count too). A statement '..UptoSaid' is the law's where the arguments, and the package variables that the reading takes, are together of bulk at most 1048576: NARROWER than '..Said'. Prove '..Said' where nothing that the law and all that it calls make is longer than what came in: it says more and counts as full. Else prove '..UptoSaid'. A law counts once. -/
mutual
def uptoBulk {H : Type} : DataW H → Nat
  | .lit (.string bytes) => bytes.length + 1
  | .lit _ => 1
  | .nil => 1
  | .ptr d => uptoBulk d + 1
  | .slice elems spare => uptoBulkAll elems + uptoBulkAll spare + 1
  | .agg parts => uptoBulkAll parts + 1
  | .iface _ d => uptoBulk d + 1
  | .map entries => uptoBulkEntries entries + 1
  | .held _ => 1
def uptoBulkAll {H : Type} : List (DataW H) → Nat
  | [] => 0
  | d :: r => uptoBulk d + uptoBulkAll r
def uptoBulkEntries {H : Type} : List (Lit × DataW H) → Nat
  | [] => 0
  | x :: r => uptoBulkEntry x + uptoBulkEntries r
def uptoBulkEntry {H : Type} : Lit × DataW H → Nat
  | (.string bytes, d) => bytes.length + uptoBulk d + 1
  | (_, d) => uptoBulk d + 1
 end
def uptoSmall : (H : Type) → List (DataW H) → Bool := fun _ ds => decide (uptoBulkAll ds ≤ 1048576)
def OpenSpec.upto (s : _root_.Go.ChangeSpec) : _root_.Go.OpenSpec := { _root_.Go.OpenSpec.ofChange s with cond := some uptoSmall }

/-- 'rickyardlaw04.CodeShorts', WHERE WHAT IT READS IS OF BULK AT MOST 1048576: true; the input reads as it did. -/
def codeShortsUptoRow : OpenClaim := { program := "ytjgcllkcppmmaaa", sum := "f3255469cf028e96a678dd9d95ff9105670eeacc12b0f0b43bbbfe0c60e791c6", func := "rickyard/rickyardlaw04.CodeShorts", spec := "codeShorts", recurses := true, apart := false, narrowed := true }
def CodeShortsUptoSaid : Prop := codeShortsUptoRow.holds Try.pinned (OpenSpec.upto codeShortsSpec)

/-- 'rickyardlaw04.CodeLengths', WHERE WHAT IT READS IS OF BULK AT MOST 1048576: true; the input reads as it did. -/
def codeLengthsUptoRow : OpenClaim := { program := "ytjgcllkcppmmaaa", sum := "f3255469cf028e96a678dd9d95ff9105670eeacc12b0f0b43bbbfe0c60e791c6", func := "rickyard/rickyardlaw04.CodeLengths", spec := "codeLengths", apart := false, narrowed := true }
def CodeLengthsUptoSaid : Prop := codeLengthsUptoRow.holds Try.pinned (OpenSpec.upto codeLengthsSpec)

/-- 'rickyardlaw04.CodeLess', WHERE WHAT IT READS IS OF BULK AT MOST 1048576: true; the input reads as it did. -/
def codeLessUptoRow : OpenClaim := { program := "ytjgcllkcppmmaaa", sum := "f3255469cf028e96a678dd9d95ff9105670eeacc12b0f0b43bbbfe0c60e791c6", func := "rickyard/rickyardlaw04.CodeLess", spec := "codeLess", apart := false, narrowed := true }
def CodeLessUptoSaid : Prop := codeLessUptoRow.holds Try.pinned (OpenSpec.upto codeLessSpec)

/-- 'rickyardlaw04.CodePairs', WHERE WHAT IT READS IS OF BULK AT MOST 1048576: true; the input reads as it did. -/
def codePairsUptoRow : OpenClaim := { program := "ytjgcllkcppmmaaa", sum := "f3255469cf028e96a678dd9d95ff9105670eeacc12b0f0b43bbbfe0c60e791c6", func := "rickyard/rickyardlaw04.CodePairs", spec := "codePairs", apart := false, narrowed := true }
def CodePairsUptoSaid : Prop := codePairsUptoRow.holds Try.pinned (OpenSpec.upto codePairsSpec)

/-- 'rickyardlaw04.CodeTaken', WHERE WHAT IT READS IS OF BULK AT MOST 1048576: true; the input reads as it did. -/
def codeTakenUptoRow : OpenClaim := { program := "ytjgcllkcppmmaaa", sum := "f3255469cf028e96a678dd9d95ff9105670eeacc12b0f0b43bbbfe0c60e791c6", func := "rickyard/rickyardlaw04.CodeTaken", spec := "codeTaken", apart := false, narrowed := true }
def CodeTakenUptoSaid : Prop := codeTakenUptoRow.holds Try.pinned (OpenSpec.upto codeTakenSpec)

/-- 'rickyardlaw04.CodeOrders', WHERE WHAT IT READS IS OF BULK AT MOST 1048576: true; the input reads as it did. -/
def codeOrdersUptoRow : OpenClaim := { program := "ytjgcllkcppmmaaa", sum := "f3255469cf028e96a678dd9d95ff9105670eeacc12b0f0b43bbbfe0c60e791c6", func := "rickyard/rickyardlaw04.CodeOrders", spec := "codeOrders", apart := false, narrowed := true }
def CodeOrdersUptoSaid : Prop := codeOrdersUptoRow.holds Try.pinned (OpenSpec.upto codeOrdersSpec)

/-- 'rickyardlaw04.CodeBack', WHERE WHAT IT READS IS OF BULK AT MOST 1048576: true; the input reads as it did. -/
def codeBackUptoRow : OpenClaim := { program := "ytjgcllkcppmmaaa", sum := "f3255469cf028e96a678dd9d95ff9105670eeacc12b0f0b43bbbfe0c60e791c6", func := "rickyard/rickyardlaw04.CodeBack", spec := "codeBack", apart := false, narrowed := true }
def CodeBackUptoSaid : Prop := codeBackUptoRow.holds Try.pinned (OpenSpec.upto codeBackSpec)

end Rows
end Go.Proofs.Ytjgcllkcppmmaaa
