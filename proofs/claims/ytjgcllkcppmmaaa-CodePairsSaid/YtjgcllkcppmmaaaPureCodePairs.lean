/-
  Two texts' bytes, one behind the other, stand as pairs of texts do.
-/
import Derived.Test.YtjgcllkcppmmaaaLibLCodePairs
import Derived.Test.YtjgcllkcppmmaaaEvs
namespace Go.Proofs.Ytjgcllkcppmmaaa.Pure
set_option linter.unusedSimpArgs false
set_option linter.unusedVariables false
open Go.RowKit Go.Proofs.Ytjgcllkcppmmaaa.Lib Go.Proofs.Ytjgcllkcppmmaaa.Plain Go.Proofs.Ytjgcllkcppmmaaa.Fns Go.Proofs.YtjgcllkcppmmaaaW.PrintWords Go.Proofs.YtjgcllkcppmmaaaW.PrintLast

theorem CodePairs : rickyardlaw04_CodePairs.Pure := by
  intro a b c d ha hb hc hd
  have hA := bs_byt a
  have hB := bs_byt b
  have hC := bs_byt c
  have hD := bs_byt d
  apply Ev.rounds
  unfold rickyardlaw04_CodePairs.f
  rw [w64 (by omega) (by omega), w64 (by omega) (by omega)]
  by_cases h1 : (a.size : Int) + (b.size : Int) > 1000
  · refine ev_pos h1 (Ev.step (fun _ => by rw [rickyardlaw04_CodePairs.j0]) ?_)
    exact ev_pos rfl ev_aliveSome
  refine ev_neg h1 (Ev.step (fun _ => by rw [rickyardlaw04_CodePairs.j0]) ?_)
  by_cases h2 : (c.size : Int) + (d.size : Int) > 1000
  · rw [decide_eq_true h2]
    exact ev_pos rfl ev_aliveSome
  rw [decide_eq_false h2]
  refine ev_neg (by decide) ?_
  have la := txt_length_le (bs a)
  have lb := txt_length_le (bs b)
  have lc := txt_length_le (bs c)
  have ld := txt_length_le (bs d)
  rw [bs_length] at la lb lc ld
  refine (ev_text (by omega)).bind ?_
  refine (ev_text (by omega)).bind ?_
  refine (ev_with (by omega)).bind ?_
  refine (ev_text (by omega)).bind ?_
  refine (ev_text (by omega)).bind ?_
  refine (ev_with (by omega)).bind ?_
  refine ev_alive.bind ?_
  refine ev_pos rfl ?_
  have hP := (txt_byt hA).append (txt_byt hB)
  have hQ := (txt_byt hC).append (txt_byt hD)
  have hEq : decide (txt (bs a) ++ txt (bs b) = txt (bs c) ++ txt (bs d)) = (decide (bs a = bs c) && decide (bs b = bs d)) := by
    rw [← Bool.decide_and]
    congr 1
    rw [eq_iff_iff]
    constructor
    · intro h
      have h' := txt_inj hA hC h
      exact ⟨h'.1, (txt_eq hB hD).1 h'.2⟩
    · rintro ⟨h, h'⟩
      rw [h, h']
  rw [less_bs, less_strOfNums hP hQ, eq_nums hP hQ, hEq, less_bs, eq_bs, txt_lts _ _ _ _ hA hC, txt_less hB hD]
  simp only [eq_toList]
  by_cases hl : lts (bs a) (bs c) = true
  · have hne : bs a ≠ bs c := fun h => by rw [h, lts_irrefl] at hl; exact absurd hl (by simp)
    refine ev_pos hl (ev_pos (by simp [hl]) (ev_neg hne (ev_now ?_)))
    simp [hne]
  · refine ev_neg hl ?_
    by_cases he : bs a = bs c
    · refine ev_pos he (ev_pos ?_ (ev_now ?_))
      · simp [he, lts_irrefl]
      · simp [he]
    · refine ev_neg he (ev_pos ?_ (ev_now ?_))
      · simp [hl, he]
      · simp [he]

end Go.Proofs.Ytjgcllkcppmmaaa.Pure
