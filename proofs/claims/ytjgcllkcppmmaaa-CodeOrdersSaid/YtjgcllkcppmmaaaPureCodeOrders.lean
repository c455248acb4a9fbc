/-
  Numbers and texts become the reference's bytes, and of any bytes both readers tell the same.
-/
import Derived.Test.YtjgcllkcppmmaaaLibLCodeOrders
import Derived.Test.YtjgcllkcppmmaaaEvs
namespace Go.Proofs.Ytjgcllkcppmmaaa.Pure
set_option linter.unusedSimpArgs false
set_option linter.unusedVariables false
open Go.RowKit Go.Proofs.Ytjgcllkcppmmaaa.Lib Go.Proofs.Ytjgcllkcppmmaaa.Plain Go.Proofs.Ytjgcllkcppmmaaa.Fns Go.Proofs.YtjgcllkcppmmaaaW.PrintWords Go.Proofs.YtjgcllkcppmmaaaW.PrintLast

theorem CodeOrders : rickyardlaw04_CodeOrders.Pure := by
  intro a s l ha hs _ hl hb
  have hB := Byt.of_wf hb
  have hA := i64_of_wf ha
  apply Ev.rounds
  unfold rickyardlaw04_CodeOrders.f
  by_cases h1 : (s.size : Int) > 2000
  · refine ev_pos h1 (Ev.step (fun _ => by rw [rickyardlaw04_CodeOrders.j0]) ?_)
    exact ev_pos rfl ev_aliveSome
  refine ev_neg h1 (Ev.step (fun _ => by rw [rickyardlaw04_CodeOrders.j0]) ?_)
  by_cases h2 : (l.length : Int) > 4000
  · rw [decide_eq_true h2]
    exact ev_pos rfl ev_aliveSome
  rw [decide_eq_false h2]
  refine ev_neg (by decide) ?_
  refine (ev_readNumber hB).bind ?_
  refine (ev_refReadNumber hB).bind ?_
  refine (ev_readText (by omega)).bind ?_
  refine (ev_refReadText (by omega)).bind ?_
  refine ev_alive.bind ?_
  refine ev_pos rfl ?_
  refine (ev_number hA).bind ?_
  refine (ev_refNumber hA).bind ?_
  refine ev_pos rfl ?_
  refine (ev_text (by omega)).bind ?_
  refine (ev_refText (by omega)).bind ?_
  refine ev_pos rfl (ev_pos rfl (ev_pos rfl (ev_pos rfl (ev_pos rfl (ev_pos rfl (ev_now ?_))))))
  simp

end Go.Proofs.Ytjgcllkcppmmaaa.Pure
