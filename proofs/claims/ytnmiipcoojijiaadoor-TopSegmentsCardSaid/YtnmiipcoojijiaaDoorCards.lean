/-
  DERIVED. GIVEN WITH THE SEED: THE CARDS: each row of YtnmiipcoojijiaaDoorRows.lean that lists a variable, with what it lists TIED to the program's text (the seventh form; the later family's looks); each row that meets fmt, with fmt's text TOLD by the authors' own Lean function (tested against real Go, not proved from fmt's source: count such statements apart). THE CARD IS WHAT COUNTS. Prove the row's statement (the work); the ties are given (YtnmiipcoojijiaaDoorTie.lean); close each card by the builder's one call (the guide's Derived/Test/ToyasCard.lean, 'card_holds'). Laid BY PROGRAM, IN A SANDBOX (cutbox-door.mjs). By AI agents, Wed Nov 11 2026. No macro, syntax, notation, axiom, sorry.
-/
import Derived.Test.YtnmiipcoojijiaaDoorRows
import GoSem.ClaimSeven
namespace Go.Proofs.YtnmiipcoojijiaaDoor
namespace Rows

/-- THE TIED CARD OF 'rickyardtop.TopSegments'. -/
def topSegmentsCard : Claim7 := { stood := { row := topSegmentsRow, standIns := [], harness := (true, "5ea6bf33d4bac0f589a9489972c49b3a8cf8fea377b42d9ba2fe9efb04102a2c"), looks := false }, kinds := [], alts := [], laidByText := true, laidKinds := [.data, .data, .data], laidTests := true, laidLooks := .later }
def TopSegmentsCardSaid : Prop := Claim7.holds Tryd.pinned (.plain (OpenSpec.ofChange topSegmentsSpec)) topSegmentsCard

/-- THE SECOND FORM's CARD OF 'rickyardtop.TopSegments'. -/
def topSegmentsUptoCard : Claim7 := { stood := { row := topSegmentsUptoRow, standIns := [], harness := (true, "5ea6bf33d4bac0f589a9489972c49b3a8cf8fea377b42d9ba2fe9efb04102a2c"), looks := false }, kinds := [], alts := [], laidByText := true, laidKinds := [.data, .data, .data], laidTests := true, laidLooks := .later }
def TopSegmentsUptoCardSaid : Prop := Claim7.holds Tryd.pinned (.plain (OpenSpec.upto topSegmentsSpec)) topSegmentsUptoCard
end Rows
end Go.Proofs.YtnmiipcoojijiaaDoor
