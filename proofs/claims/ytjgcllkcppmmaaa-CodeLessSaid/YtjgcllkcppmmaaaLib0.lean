/- Functions that the laws reach, as plain Lean functions, and the contracts of their calls; conditions: those that each theorem states. Written by a program of this session. -/
import Derived.Test.YtjgcllkcppmmaaaProg
import Derived.Below
import Derived.Deep.Draws
import Derived.Deep.AppendLies
import Derived.Maps.AppendAt
import Derived.OwnWalk
import Derived.Laws.BytesArg
import Derived.Laws.MakeOwn
import Derived.Laws.OwnMore
import Derived.Deep.OwnRows
import Derived.Tactics
import Derived.Lib.ConvBytes
import Derived.Laws.Slices
import Derived.WalkKit
import Derived.KernelRfl
import Derived.RowKit3
import Derived.Deep.LoopGhost
import Derived.Deep.QuietTactic
import Derived.BigQuiet
import Derived.WideLaws
import Derived.Deep.DeepCutAuto
import Derived.Deep.CutBlock
import Derived.Deep.RegionHeld3
import Derived.Laws.Rows
import Derived.Lib.AppendStr
import Derived.ArgAppend
import Derived.Laws.IdiomCopy
import Derived.OrdersHeld
import Derived.Laws.BitsLemmas
import Derived.RowKit
import Derived.Test.YtjgcllkcppmmaaaWWords
import Derived.Test.YtjgcllkcppmmaaaWLast
import Derived.Test.YtjgcllkcppmmaaaWTab
import Derived.Test.YtjgcllkcppmmaaaWFour
import Derived.Test.YtjgcllkcppmmaaaWQPut
import Derived.Test.YtjgcllkcppmmaaaWApart
import Derived.Test.YtjgcllkcppmmaaaWArr
import Derived.Test.YtjgcllkcppmmaaaWZeros
import Derived.Test.YtjgcllkcppmmaaaWFoot
import Derived.Test.YtjgcllkcppmmaaaWKept
import Derived.Test.YtjgcllkcppmmaaaWShare
import Derived.Test.YtjgcllkcppmmaaaWN
import Derived.Test.YtjgcllkcppmmaaaWFootNe
import Derived.Test.YtjgcllkcppmmaaaWAt
import Derived.Test.YtjgcllkcppmmaaaWEqStruct
import Derived.Test.YtjgcllkcppmmaaaWRepsOne
import Derived.Test.YtjgcllkcppmmaaaWInv
import Derived.Test.YtjgcllkcppmmaaaWInvWords
import Derived.Test.YtjgcllkcppmmaaaWGuard
import Derived.Test.YtjgcllkcppmmaaaWNEv
import Derived.Test.YtjgcllkcppmmaaaWMore
namespace Go.Proofs.Ytjgcllkcppmmaaa.Lib
open Go.RowKit Go.Proofs.YtjgcllkcppmmaaaW.PrintWords Go.Proofs.YtjgcllkcppmmaaaW.PrintLast Go.Proofs.YtjgcllkcppmmaaaW.PrintMore
attribute [local go_sem] max2_int min2_int max_two min_two max_three min_three max_four min_four   -- for this text's walks alone
set_option linter.unusedVariables false
set_option linter.unusedSimpArgs false

def errW : Option Int → Value
  | none => .nilIface
  | some c => .iface 0 (.int .i64 c)
theorem errW_none : errW none = .nilIface := rfl
theorem errW_some (c : Int) : errW (some c) = .iface 0 (.int .i64 c) := rfl
theorem info5 : (Try.prog.info? 5).map (fun i => (i.zero, i.size, i.bytes)) = some (some (.int .u8 0), 1, 1) := by kernel_rfl
-- the values' own types

end Go.Proofs.Ytjgcllkcppmmaaa.Lib
