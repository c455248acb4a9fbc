/-
  No cell of these rows narrows 'for every input' (looked for: loops, veiled, ifaces, maps, wideKeys, modest, calm, conditions, laid).
  DERIVED. THE GIVEN ROWS OF THIS SEAT. 5 by the template 'for every input the law returns true; each argument reads behind the call as it read before'; 0 by the template 'total and deterministic' (their statements: YtgbgakbbkacplaaTotals.lean).
  GIVEN WITH THE SEED: the statements are not yours to turn. If you find one false, say at which input.
  Laid BY PROGRAM, IN A SANDBOX (cutbox-rows.mjs): the forced cells as the released guide's own fill.sh prints them over the translation e6611bbdc450388b… (all of the seat's roots in one cut). By AI agents, Wed Nov 11 2026. No macro, syntax, notation, axiom, sorry.
-/
import Derived.Test.YtgbgakbbkacplaaChecked
import GoSem.Claim
import GoSem.ClaimJoined
import GoSem.ClaimMapViews
import Derived.JoinedTies
import Derived.KernelRfl
namespace Go.Proofs.Ytgbgakbbkacplaa
/- THE CELL 'sum', in the pinned program and in every row, IS THE sha256 OF THE DUMP (.gsa) THAT YtgbgakbbkacplaaProg.lean LOADS. Nothing in Lean hashes anything: it is a label: what it is worth is what the hold of that sum in a sandbox is worth. -/
noncomputable def Try.pinned : Pinned := { name := "ytgbgakbbkacplaa", sum := "e6611bbdc450388bf6cc605d21f26bae677ef3af0726446fa518bf910616f595", checked := Try.checked }
namespace Rows
def none {H : Type} : Left H := { results := [], args := [] }

/-- 'rickyardlaw19.FeedOrder': WHATEVER THE INPUT: true; the input reads as it did. -/
def feedOrderSpec : ChangeSpec := { name := "feedOrder", fn := fun _ => fun
  | [d1, d2] => { results := [.lit (.bool true)], args := [d1, d2] }
  | _ => none }
def feedOrderRow : OpenClaim := { program := "ytgbgakbbkacplaa", sum := "e6611bbdc450388bf6cc605d21f26bae677ef3af0726446fa518bf910616f595", func := "rickyard/rickyardlaw19.FeedOrder", spec := "feedOrder", apart := false }
def FeedOrderSaid : Prop := feedOrderRow.holds Try.pinned (OpenSpec.ofChange feedOrderSpec)

/-- ITS FALSE NEIGHBOUR: 'it returns false'. Refute it at one input. -/
def feedOrderWrong : ChangeSpec := { name := "feedOrder", fn := fun _ => fun
  | [d1, d2] => { results := [.lit (.bool false)], args := [d1, d2] }
  | _ => none }
def FeedOrderWrongFalsely : Prop := feedOrderRow.holds Try.pinned (OpenSpec.ofChange feedOrderWrong)

/-- 'rickyardlaw19.FeedFirst': WHATEVER THE INPUT: true; the input reads as it did. -/
def feedFirstSpec : ChangeSpec := { name := "feedFirst", fn := fun _ => fun
  | [d1, d2] => { results := [.lit (.bool true)], args := [d1, d2] }
  | _ => none }
def feedFirstRow : OpenClaim := { program := "ytgbgakbbkacplaa", sum := "e6611bbdc450388bf6cc605d21f26bae677ef3af0726446fa518bf910616f595", func := "rickyard/rickyardlaw19.FeedFirst", spec := "feedFirst", apart := false }
def FeedFirstSaid : Prop := feedFirstRow.holds Try.pinned (OpenSpec.ofChange feedFirstSpec)

/-- ITS FALSE NEIGHBOUR: 'it returns false'. Refute it at one input. -/
def feedFirstWrong : ChangeSpec := { name := "feedFirst", fn := fun _ => fun
  | [d1, d2] => { results := [.lit (.bool false)], args := [d1, d2] }
  | _ => none }
def FeedFirstWrongFalsely : Prop := feedFirstRow.holds Try.pinned (OpenSpec.ofChange feedFirstWrong)

/-- 'rickyardlaw19.FeedCloses': WHATEVER THE INPUT: true; the input reads as it did. -/
def feedClosesSpec : ChangeSpec := { name := "feedCloses", fn := fun _ => fun
  | [d1, d2, d3, d4] => { results := [.lit (.bool true)], args := [d1, d2, d3, d4] }
  | _ => none }
def feedClosesRow : OpenClaim := { program := "ytgbgakbbkacplaa", sum := "e6611bbdc450388bf6cc605d21f26bae677ef3af0726446fa518bf910616f595", func := "rickyard/rickyardlaw19.FeedCloses", spec := "feedCloses", apart := false }
def FeedClosesSaid : Prop := feedClosesRow.holds Try.pinned (OpenSpec.ofChange feedClosesSpec)

/-- ITS FALSE NEIGHBOUR: 'it returns false'. Refute it at one input. -/
def feedClosesWrong : ChangeSpec := { name := "feedCloses", fn := fun _ => fun
  | [d1, d2, d3, d4] => { results := [.lit (.bool false)], args := [d1, d2, d3, d4] }
  | _ => none }
def FeedClosesWrongFalsely : Prop := feedClosesRow.holds Try.pinned (OpenSpec.ofChange feedClosesWrong)

/-- 'rickyardlaw19.FeedLives': WHATEVER THE INPUT: true; the input reads as it did. -/
def feedLivesSpec : ChangeSpec := { name := "feedLives", fn := fun _ => fun
  | [d1, d2] => { results := [.lit (.bool true)], args := [d1, d2] }
  | _ => none }
def feedLivesRow : OpenClaim := { program := "ytgbgakbbkacplaa", sum := "e6611bbdc450388bf6cc605d21f26bae677ef3af0726446fa518bf910616f595", func := "rickyard/rickyardlaw19.FeedLives", spec := "feedLives", apart := false }
def FeedLivesSaid : Prop := feedLivesRow.holds Try.pinned (OpenSpec.ofChange feedLivesSpec)

/-- ITS FALSE NEIGHBOUR: 'it returns false'. Refute it at one input. -/
def feedLivesWrong : ChangeSpec := { name := "feedLives", fn := fun _ => fun
  | [d1, d2] => { results := [.lit (.bool false)], args := [d1, d2] }
  | _ => none }
def FeedLivesWrongFalsely : Prop := feedLivesRow.holds Try.pinned (OpenSpec.ofChange feedLivesWrong)

/-- 'rickyardlaw19.FeedNobody': WHATEVER THE INPUT: true; the input reads as it did. -/
def feedNobodySpec : ChangeSpec := { name := "feedNobody", fn := fun _ => fun
  | [d1, d2] => { results := [.lit (.bool true)], args := [d1, d2] }
  | _ => none }
def feedNobodyRow : OpenClaim := { program := "ytgbgakbbkacplaa", sum := "e6611bbdc450388bf6cc605d21f26bae677ef3af0726446fa518bf910616f595", func := "rickyard/rickyardlaw19.FeedNobody", spec := "feedNobody", apart := false }
def FeedNobodySaid : Prop := feedNobodyRow.holds Try.pinned (OpenSpec.ofChange feedNobodySpec)

/-- ITS FALSE NEIGHBOUR: 'it returns false'. Refute it at one input. -/
def feedNobodyWrong : ChangeSpec := { name := "feedNobody", fn := fun _ => fun
  | [d1, d2] => { results := [.lit (.bool false)], args := [d1, d2] }
  | _ => none }
def FeedNobodyWrongFalsely : Prop := feedNobodyRow.holds Try.pinned (OpenSpec.ofChange feedNobodyWrong)

/- THE SECOND FORM. 'bulk': how many values and letters a reading holds, each counted each time it is reached (what is shared counts as often as it is met; a slice's spare places count too). A statement '..UptoSaid' is the law's where the arguments, and the package variables that the reading takes, are together of bulk at most 1048576: NARROWER than '..Said'. Prove '..Said' where nothing that the law and all that it calls make is longer than what came in: it says more and counts as full. Else prove '..UptoSaid'. A law counts once. -/
mutual
def uptoBulk {H : Type} : DataW H → Nat
  | .lit (.string bytes) => bytes.length + 1
  | .lit _ => 1
  | .nil => 1
  | .ptr d => uptoBulk d + 1
  | .slice elems spare => uptoBulkAll elems + uptoBulkAll spare + 1
  | .agg parts => uptoBulkAll parts + 1
  | .iface _ d => uptoBulk d + 1
  | .map entries => uptoBulkEntries entries + 1
  | .held _ => 1
def uptoBulkAll {H : Type} : List (DataW H) → Nat
  | [] => 0
  | d :: r => uptoBulk d + uptoBulkAll r
def uptoBulkEntries {H : Type} : List (Lit × DataW H) → Nat
  | [] => 0
  | x :: r => uptoBulkEntry x + uptoBulkEntries r
def uptoBulkEntry {H : Type} : Lit × DataW H → Nat
  | (.string bytes, d) => bytes.length + uptoBulk d + 1
  | (_, d) => uptoBulk d + 1
 end
def uptoSmall : (H : Type) → List (DataW H) → Bool := fun _ ds => decide (uptoBulkAll ds ≤ 1048576)
def OpenSpec.upto (s : _root_.Go.ChangeSpec) : _root_.Go.OpenSpec := { _root_.Go.OpenSpec.ofChange s with cond := some uptoSmall }

/-- 'rickyardlaw19.FeedOrder', WHERE WHAT IT READS IS OF BULK AT MOST 1048576: true; the input reads as it did. -/
def feedOrderUptoRow : OpenClaim := { program := "ytgbgakbbkacplaa", sum := "e6611bbdc450388bf6cc605d21f26bae677ef3af0726446fa518bf910616f595", func := "rickyard/rickyardlaw19.FeedOrder", spec := "feedOrder", apart := false, narrowed := true }
def FeedOrderUptoSaid : Prop := feedOrderUptoRow.holds Try.pinned (OpenSpec.upto feedOrderSpec)

/-- 'rickyardlaw19.FeedFirst', WHERE WHAT IT READS IS OF BULK AT MOST 1048576: true; the input reads as it did. -/
def feedFirstUptoRow : OpenClaim := { program := "ytgbgakbbkacplaa", sum := "e6611bbdc450388bf6cc605d21f26bae677ef3af0726446fa518bf910616f595", func := "rickyard/rickyardlaw19.FeedFirst", spec := "feedFirst", apart := false, narrowed := true }
def FeedFirstUptoSaid : Prop := feedFirstUptoRow.holds Try.pinned (OpenSpec.upto feedFirstSpec)

/-- 'rickyardlaw19.FeedCloses', WHERE WHAT IT READS IS OF BULK AT MOST 1048576: true; the input reads as it did. -/
def feedClosesUptoRow : OpenClaim := { program := "ytgbgakbbkacplaa", sum := "e6611bbdc450388bf6cc605d21f26bae677ef3af0726446fa518bf910616f595", func := "rickyard/rickyardlaw19.FeedCloses", spec := "feedCloses", apart := false, narrowed := true }
def FeedClosesUptoSaid : Prop := feedClosesUptoRow.holds Try.pinned (OpenSpec.upto feedClosesSpec)

/-- 'rickyardlaw19.FeedLives', WHERE WHAT IT READS IS OF BULK AT MOST 1048576: true; the input reads as it did. -/
def feedLivesUptoRow : OpenClaim := { program := "ytgbgakbbkacplaa", sum := "e6611bbdc450388bf6cc605d21f26bae677ef3af0726446fa518bf910616f595", func := "rickyard/rickyardlaw19.FeedLives", spec := "feedLives", apart := false, narrowed := true }
def FeedLivesUptoSaid : Prop := feedLivesUptoRow.holds Try.pinned (OpenSpec.upto feedLivesSpec)

/-- 'rickyardlaw19.FeedNobody', WHERE WHAT IT READS IS OF BULK AT MOST 1048576: true; the input reads as it did. -/
def feedNobodyUptoRow : OpenClaim := { program := "ytgbgakbbkacplaa", sum := "e6611bbdc450388bf6cc605d21f26bae677ef3af0726446fa518bf910616f595", func := "rickyard/rickyardlaw19.FeedNobody", spec := "feedNobody", apart := false, narrowed := true }
def FeedNobodyUptoSaid : Prop := feedNobodyUptoRow.holds Try.pinned (OpenSpec.upto feedNobodySpec)

end Rows
end Go.Proofs.Ytgbgakbbkacplaa
