/-
  Of numbers and texts in order the bytes stand as they do, and no one's bytes are the front of another one's.
-/
import Derived.Test.YtjgcllkcppmmaaaLibLCodeLess
import Derived.Test.YtjgcllkcppmmaaaEvs
namespace Go.Proofs.Ytjgcllkcppmmaaa.Pure
set_option linter.unusedSimpArgs false
set_option linter.unusedVariables false
open Go.RowKit Go.Proofs.Ytjgcllkcppmmaaa.Lib Go.Proofs.Ytjgcllkcppmmaaa.Plain Go.Proofs.Ytjgcllkcppmmaaa.Fns Go.Proofs.YtjgcllkcppmmaaaW.PrintWords Go.Proofs.YtjgcllkcppmmaaaW.PrintLast

theorem CodeLess : rickyardlaw04_CodeLess.Pure := by
  intro a b s t ha hb hs ht
  have hA := i64_of_wf ha
  have hB := i64_of_wf hb
  have hS := bs_byt s
  have hT := bs_byt t
  apply Ev.rounds
  unfold rickyardlaw04_CodeLess.f
  by_cases h1 : (s.size : Int) > 1000
  · refine ev_pos h1 (Ev.step (fun _ => by rw [rickyardlaw04_CodeLess.j0]) ?_)
    exact ev_pos rfl ev_aliveSome
  refine ev_neg h1 (Ev.step (fun _ => by rw [rickyardlaw04_CodeLess.j0]) ?_)
  by_cases h2 : (t.size : Int) > 1000
  · rw [decide_eq_true h2]
    exact ev_pos rfl ev_aliveSome
  rw [decide_eq_false h2]
  refine ev_neg (by decide) ?_
  refine (ev_number hA).bind ?_
  refine (ev_number hB).bind ?_
  refine (ev_text (by omega)).bind ?_
  refine (ev_text (by omega)).bind ?_
  rw [less_strOfNums (numb_byt _ _) (numb_byt _ _), less_number hA hB, less_strOfNums (txt_byt hS) (txt_byt hT), txt_less hS hT, less_bs, eq_nums (txt_byt hS) (txt_byt hT), eq_bs]
  refine ev_neg (by simp) ?_
  refine ev_neg (by simp) ?_
  refine ev_neg (by simp [txt_eq hS hT]) ?_
  refine ev_alive.bind ?_
  refine ev_pos rfl ?_
  by_cases e : s.toList = t.toList
  · exact ev_pos e (Ev.now true)
  refine ev_neg e ?_
  have e' : bs s ≠ bs t := fun h => e ((eq_toList s t).2 h)
  by_cases hle : ((strOfNums (txt (bs s))).size : Int) ≤ ((strOfNums (txt (bs t))).size : Int)
  · refine ev_pos hle (ev_pos (by omega) (ev_now ?_))
    rw [Int.toNat_natCast, strOfNums_size, extract_nums, eq_nums ((txt_byt hT).take _) (txt_byt hS)]
    have hne : ¬ (txt (bs t)).take (txt (bs s)).length = txt (bs s) := by
      intro h
      refine e' (txt_inj (p := (txt (bs t)).drop (txt (bs s)).length) (q := []) hS hT ?_).1
      rw [List.append_nil]
      conv => lhs; lhs; rw [← h]
      exact List.take_append_drop _ _
    simp [hne]
  · exact ev_neg hle (ev_now rfl)

end Go.Proofs.Ytjgcllkcppmmaaa.Pure
