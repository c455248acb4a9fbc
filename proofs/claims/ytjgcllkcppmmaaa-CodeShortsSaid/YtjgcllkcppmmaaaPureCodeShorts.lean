/-
  Numbers become the reference's short bytes, and of any bytes both readers tell the same.
-/
import Derived.Test.YtjgcllkcppmmaaaLibLCodeShorts
import Derived.Test.YtjgcllkcppmmaaaEvs
namespace Go.Proofs.Ytjgcllkcppmmaaa.Pure
set_option linter.unusedSimpArgs false
set_option linter.unusedVariables false
open Go.RowKit Go.Proofs.Ytjgcllkcppmmaaa.Lib Go.Proofs.Ytjgcllkcppmmaaa.Plain Go.Proofs.Ytjgcllkcppmmaaa.Fns Go.Proofs.YtjgcllkcppmmaaaW.PrintWords Go.Proofs.YtjgcllkcppmmaaaW.PrintLast

theorem CodeShorts : rickyardlaw04_CodeShorts.Pure := by
  intro a l ha _ hl hb
  have hB := Byt.of_wf hb
  obtain ⟨n, rfl⟩ := Int.eq_ofNat_of_zero_le (u64_of_wf ha).1
  have hn : n < 18446744073709551616 := by have := (u64_of_wf ha).2; omega
  apply Ev.rounds
  unfold rickyardlaw04_CodeShorts.f
  refine (ev_readShort hB (by omega)).bind ?_
  refine (ev_refReadShort hB (by omega)).bind ?_
  refine ev_alive.bind ?_
  refine ev_pos rfl ?_
  refine (ev_short hn).bind ?_
  refine (ev_refShort hn).bind ?_
  refine ev_pos rfl (ev_pos rfl (ev_pos rfl (ev_now ?_)))
  simp

end Go.Proofs.Ytjgcllkcppmmaaa.Pure
