/-
  What is read of any bytes, written again, stands there; where nothing is read, nothing is told.
-/
import Derived.Test.YtjgcllkcppmmaaaLibLCodeTaken
import Derived.Test.YtjgcllkcppmmaaaEvs
namespace Go.Proofs.Ytjgcllkcppmmaaa.Pure
set_option linter.unusedSimpArgs false
set_option linter.unusedVariables false
open Go.RowKit Go.Proofs.Ytjgcllkcppmmaaa.Lib Go.Proofs.Ytjgcllkcppmmaaa.Plain Go.Proofs.Ytjgcllkcppmmaaa.Fns Go.Proofs.YtjgcllkcppmmaaaW.PrintWords Go.Proofs.YtjgcllkcppmmaaaW.PrintLast

theorem CodeTaken : rickyardlaw04_CodeTaken.Pure := by
  intro l _ hl hb
  have hB := Byt.of_wf hb
  apply Ev.rounds
  unfold rickyardlaw04_CodeTaken.f
  by_cases h1 : (l.length : Int) > 2000
  · exact ev_pos h1 ev_aliveSome
  refine ev_neg h1 ?_
  refine (ev_readShort hB (by omega)).bind ?_
  refine (ev_readText (by omega)).bind ?_
  have hj : Ev (fun k => rickyardlaw04_CodeTaken.j0 k l (rtx l [] 0).1 (rtx l [] 0).2.1 (rtx l [] 0).2.2 false) true := by
    refine Ev.step (fun _ => by rw [rickyardlaw04_CodeTaken.j0]) (ev_neg (by decide) (ev_alive.bind (ev_pos rfl ?_)))
    rcases hr : rtx l [] 0 with ⟨s, m, e⟩
    dsimp only
    by_cases he : e = 0
    · subst he
      obtain ⟨x, j, e1, e2, e3, e4, e5, e6⟩ := rtx_back l.length l [] 0 s m (Nat.le_refl _) hr
      rw [List.nil_append] at e1
      subst e1
      have hx := e6 hB
      refine ev_pos rfl (ev_pos (by omega) (ev_pos (by omega) ?_))
      have hxl : (strOfNums x).size ≤ 70000000000000 := by
        rw [strOfNums_size]
        have h2 := congrArg List.length e2
        have h3 := txt_length_ge x
        rw [List.length_take] at h2
        omega
      refine (ev_text hxl).bind ?_
      rw [bs_strOfNums hx, e2]
      refine ev_pos (by omega) (ev_pos ?_ (Ev.now true))
      rw [e5, show (0 + (j : Int)).toNat = j by omega]
    · have := rtx_err l.length l [] 0 (Nat.le_refl _)
      rw [hr] at this
      rcases this with h | h
      · exact absurd h he
      · simp only [Prod.mk.injEq] at h
        obtain ⟨h1, h2, _⟩ := h
        subst h1; subst h2
        refine ev_neg he (ev_pos ?_ (ev_now rfl))
        rw [toList_data]
  rcases hr : rsh l 0 0 with ⟨v, n, e⟩
  dsimp only
  by_cases he : e = 0
  · subst he
    obtain ⟨a, m, e1, e2, e3, e4, e5, _, e7⟩ := rsh_back l 0 0 v n hB (by omega) hr
    have hv : v = (a : Int) := by simpa using e5
    subst hv
    have hn : n = (m : Int) := by rw [e4]; omega
    subst hn
    refine ev_pos rfl (ev_neg (by omega) (ev_neg (by omega) ?_))
    refine (ev_short (by simpa using e7)).bind ?_
    refine ev_pos (by omega) (ev_pos (by omega) (ev_pos ?_ hj))
    rw [e1, Int.toNat_natCast]
  · have := rsh_err l 0 0
    rw [hr] at this
    rcases this with h | h
    · exact absurd h he
    · simp only [Prod.mk.injEq] at h
      obtain ⟨h1, h2, _⟩ := h
      subst h1; subst h2
      exact ev_neg he (ev_pos rfl hj)

end Go.Proofs.Ytjgcllkcppmmaaa.Pure
