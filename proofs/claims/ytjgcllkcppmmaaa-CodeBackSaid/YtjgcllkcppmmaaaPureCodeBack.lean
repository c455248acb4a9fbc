/-
  Numbers and texts, written and read again, whatever stands behind, come back, and the place behind them is told.
-/
import Derived.Test.YtjgcllkcppmmaaaLibLCodeBack
import Derived.Test.YtjgcllkcppmmaaaEvs
namespace Go.Proofs.Ytjgcllkcppmmaaa.Pure
set_option linter.unusedSimpArgs false
set_option linter.unusedVariables false
open Go.RowKit Go.Proofs.Ytjgcllkcppmmaaa.Lib Go.Proofs.Ytjgcllkcppmmaaa.Plain Go.Proofs.Ytjgcllkcppmmaaa.Fns Go.Proofs.YtjgcllkcppmmaaaW.PrintWords Go.Proofs.YtjgcllkcppmmaaaW.PrintLast

theorem CodeBack : rickyardlaw04_CodeBack.Pure := by
  intro a n s more ha hn hs _ hl hb
  have hB := Byt.of_wf hb
  have hN := i64_of_wf hn
  obtain ⟨v, rfl⟩ := Int.eq_ofNat_of_zero_le (u64_of_wf ha).1
  have hv : v < 18446744073709551616 := by have := (u64_of_wf ha).2; omega
  apply Ev.rounds
  unfold rickyardlaw04_CodeBack.f
  by_cases h1 : (s.size : Int) > 2000
  · refine ev_pos h1 (Ev.step (fun _ => by rw [rickyardlaw04_CodeBack.j0]) ?_)
    exact ev_pos rfl ev_aliveSome
  refine ev_neg h1 (Ev.step (fun _ => by rw [rickyardlaw04_CodeBack.j0]) ?_)
  by_cases h2 : (more.length : Int) > 100
  · rw [decide_eq_true h2]
    exact ev_pos rfl ev_aliveSome
  rw [decide_eq_false h2]
  refine ev_neg (by decide) ?_
  have e1 := sh_length_le 9 v (pow10 hv)
  have e2 := numb_length (ordn n) 8
  have e3 := txt_length_le (bs s)
  rw [bs_length] at e3
  refine (ev_short hv).bind ?_
  refine (ev_number hN).bind ?_
  refine (ev_text (by omega)).bind ?_
  refine (ev_with (by omega)).bind ?_
  refine (ev_readShort ((sh_byt v).append hB) (by rw [List.length_append]; omega)).bind ?_
  refine (ev_with (by omega)).bind ?_
  refine (ev_readNumber ((numb_byt _ _).append hB)).bind ?_
  refine (ev_with (by omega)).bind ?_
  refine (ev_readText (by rw [List.length_append]; omega)).bind ?_
  refine ev_alive.bind ?_
  refine ev_pos rfl ?_
  rw [rsh_zero v hv, rnum_numb hN, rtx_txt, List.nil_append, strOfNums_bs, e2]
  refine ev_pos rfl (ev_pos rfl (ev_pos rfl (ev_pos rfl (ev_pos rfl (ev_pos rfl (ev_pos rfl (ev_pos ?_ (ev_now rfl))))))))
  simp

end Go.Proofs.Ytjgcllkcppmmaaa.Pure
