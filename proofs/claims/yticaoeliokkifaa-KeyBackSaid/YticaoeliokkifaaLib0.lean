/- Functions that the laws reach, as plain Lean functions, and the contracts of their calls; conditions: those that each theorem states. Written by a program of this session. -/
import Derived.Test.YticaoeliokkifaaProg
import Derived.Below
import Derived.Deep.Draws
import Derived.Deep.AppendLies
import Derived.Maps.AppendAt
import Derived.OwnWalk
import Derived.Laws.BytesArg
import Derived.Laws.MakeOwn
import Derived.Laws.OwnMore
import Derived.Deep.OwnRows
import Derived.Tactics
import Derived.Lib.ConvBytes
import Derived.Laws.Slices
import Derived.WalkKit
import Derived.KernelRfl
import Derived.RowKit3
import Derived.Deep.LoopGhost
import Derived.Deep.QuietTactic
import Derived.BigQuiet
import Derived.WideLaws
import Derived.Deep.DeepCutAuto
import Derived.Deep.CutBlock
import Derived.Deep.RegionHeld3
import Derived.Laws.Rows
import Derived.Lib.AppendStr
import Derived.ArgAppend
import Derived.Laws.IdiomCopy
import Derived.OrdersHeld
import Derived.Laws.BitsLemmas
import Derived.RowKit
import Derived.Test.YticaoeliokkifaaWWords
import Derived.Test.YticaoeliokkifaaWLast
import Derived.Test.YticaoeliokkifaaWTab
import Derived.Test.YticaoeliokkifaaWFour
import Derived.Test.YticaoeliokkifaaWQPut
import Derived.Test.YticaoeliokkifaaWApart
import Derived.Test.YticaoeliokkifaaWArr
import Derived.Test.YticaoeliokkifaaWZeros
import Derived.Test.YticaoeliokkifaaWFoot
import Derived.Test.YticaoeliokkifaaWKept
import Derived.Test.YticaoeliokkifaaWShare
import Derived.Test.YticaoeliokkifaaWN
import Derived.Test.YticaoeliokkifaaWFootNe
import Derived.Test.YticaoeliokkifaaWAt
import Derived.Test.YticaoeliokkifaaWEqStruct
import Derived.Test.YticaoeliokkifaaWRepsOne
import Derived.Test.YticaoeliokkifaaWInv
import Derived.Test.YticaoeliokkifaaWInvWords
import Derived.Test.YticaoeliokkifaaWGuard
import Derived.Test.YticaoeliokkifaaWNEv
import Derived.Test.YticaoeliokkifaaWMore
namespace Go.Proofs.Yticaoeliokkifaa.Lib
open Go.RowKit Go.Proofs.YticaoeliokkifaaW.PrintWords Go.Proofs.YticaoeliokkifaaW.PrintLast Go.Proofs.YticaoeliokkifaaW.PrintMore
attribute [local go_sem] max2_int min2_int max_two min_two max_three min_three max_four min_four   -- for this text's walks alone
set_option linter.unusedVariables false
set_option linter.unusedSimpArgs false

def errW : Option Int → Value
  | none => .nilIface
  | some c => .iface 0 (.int .i64 c)
theorem errW_none : errW none = .nilIface := rfl
theorem errW_some (c : Int) : errW (some c) = .iface 0 (.int .i64 c) := rfl
theorem info5 : (Try.prog.info? 5).map (fun i => (i.zero, i.size, i.bytes)) = some (some (.int .u8 0), 1, 1) := by kernel_rfl
theorem info9 : (Try.prog.info? 9).map (fun i => (i.zero, i.size, i.bytes)) = some (some (.string ⟨#[]⟩), 1, 16) := by kernel_rfl
-- the values' own types
theorem bl_flip : ∀ x y : List UInt8, (!(Op.bytesLess x y || x == y)) = Op.bytesLess y x
  | [], [] => by simp [Op.bytesLess]
  | [], b :: y => by simp [Op.bytesLess]
  | a :: x, [] => by simp [Op.bytesLess]
  | a :: x, b :: y => by
    have ih := bl_flip x y
    rw [Op.bytesLess, Op.bytesLess, ← ih]
    by_cases hab : a = b
    · subst hab
      simp
    · have h1 : (a == b) = false := by simpa using hab
      have h2 : (b == a) = false := by simpa using fun h => hab h.symm
      have h3 : (a :: x == b :: y) = false := by simp [hab]
      rw [h1, h2, h3]
      simp only [Bool.false_and, Bool.or_false]
      rcases UInt8.lt_or_lt_of_ne hab with h | h
      · have h' : ¬ b < a := UInt8.lt_asymm h
        simp [h, h']
      · have h' : ¬ a < b := UInt8.lt_asymm h
        simp [h, h']
@[go_sem] theorem binOp_string_gtr_here (t : TypeId) (a b : ByteArray) : binOp .gtr t (.string a) (.string b) = pure (.bool (Op.bytesLess b.toList a.toList)) := by
  rw [← bl_flip]; simp [binOp, Op.stringOp]
@[go_sem] theorem binOp_string_geq_here (t : TypeId) (a b : ByteArray) : binOp .geq t (.string a) (.string b) = pure (.bool !(Op.bytesLess a.toList b.toList)) := by simp [binOp, Op.stringOp]
@[go_sem] theorem binOp_string_leq_here (t : TypeId) (a b : ByteArray) : binOp .leq t (.string a) (.string b) = pure (.bool !(Op.bytesLess b.toList a.toList)) := by
  rw [← bl_flip]; simp [binOp, Op.stringOp]

end Go.Proofs.Yticaoeliokkifaa.Lib
