/-
  The order of keys is one: none ahead of itself, of two unlike ones one is ahead, and what is ahead of what is ahead is ahead.
-/
import Derived.Test.YticaoeliokkifaaLibLKeyTotal
import Derived.Test.YticaoeliokkifaaKLaws
import Derived.Test.YticaoeliokkifaaOpen
namespace Go.Proofs.Yticaoeliokkifaa.Pure
set_option linter.unusedSimpArgs false
set_option linter.unusedVariables false
open Go.RowKit Go.Proofs.Yticaoeliokkifaa.Lib Go.Proofs.Yticaoeliokkifaa.Plain Go.Proofs.Yticaoeliokkifaa.Fns Go.Proofs.Yticaoeliokkifaa.KFns Go.Proofs.YticaoeliokkifaaW.PrintWords Go.Proofs.YticaoeliokkifaaW.PrintLast Go.Proofs.YticaoeliokkifaaW.PrintMore
theorem KeyTotal {A0 A1 A2 : Option Addr} {c0 c1 c2 : Nat} {l0 l1 l2 : List ByteArray} {z0 g0 z1 g1 z2 g2 : Int} (W : World) (t0 : Open.Texts W A0 c0 l0) (iz : Open.I64 z0) (ig : Open.I64 g0) (t1 : Open.Texts W A1 c1 l1) (iz1 : Open.I64 z1) (ig1 : Open.I64 g1) (t2 : Open.Texts W A2 c2 l2) (iz2 : Open.I64 z2) (ig2 : Open.I64 g2) : ∃ n, rickyardlaw06_KeyTotal.f n l0 z0 g0 l1 z1 g1 l2 z2 g2 = some true := by
  apply Ev.rounds
  unfold rickyardlaw06_KeyTotal.f
  have dead : Ev (fun k => rickyardlaw06_KeyTotal.j0 k true l0 z0 g0 l1 z1 g1 l2 z2 g2) true := Ev.step (fun _ => by rw [rickyardlaw06_KeyTotal.j0]) (ev_pos rfl ev_aliveSome)
  refine (ev_long l0).bind ?_
  by_cases h0 : longB l0 = true
  · exact ev_pos h0 dead
  refine ev_neg h0 ((ev_long l1).bind ?_)
  by_cases h1 : longB l1 = true
  · exact ev_pos h1 dead
  refine ev_neg h1 ((ev_long l2).bind ?_)
  by_cases h2 : longB l2 = true
  · rw [h2]; exact dead
  rw [Bool.eq_false_iff.2 h2]
  obtain ⟨k0, _⟩ := long_false (Bool.eq_false_iff.2 h0)
  obtain ⟨k1, _⟩ := long_false (Bool.eq_false_iff.2 h1)
  obtain ⟨k2, _⟩ := long_false (Bool.eq_false_iff.2 h2)
  refine Ev.step (fun _ => by rw [rickyardlaw06_KeyTotal.j0]) (ev_neg (by decide) ?_)
  refine (ev_less (by omega) (by omega) _ _ _ _).bind ((ev_less (by omega) (by omega) _ _ _ _).bind (ev_alive.bind (ev_pos rfl ((ev_less (by omega) (by omega) _ _ _ _).bind (ev_neg (by rw [lessB_irrefl]; decide) ?_)))))
  by_cases hA : lessB l0 z0 g0 l1 z1 g1 = true
  · have hB := lessB_asymm hA
    refine ev_pos hA (ev_neg (by rw [hB]; decide) ((ev_same (by omega) (by omega) _ _ _ _).bind ?_))
    have hs : sameB l0 z0 g0 l1 z1 g1 = false := by
      rw [Bool.eq_false_iff]
      intro h
      obtain ⟨rfl, rfl, rfl⟩ := sameB_iff.1 h
      rw [lessB_irrefl] at hA
      exact absurd hA (by decide)
    rw [hs]
    refine ev_pos (by decide) ((ev_less (by omega) (by omega) _ _ _ _).bind ?_)
    by_cases hC : lessB l1 z1 g1 l2 z2 g2 = true
    · refine ev_pos hC ((ev_less (by omega) (by omega) _ _ _ _).bind (ev_now ?_))
      rw [lessB_trans hA hC]; rfl
    · exact ev_neg hC (ev_now rfl)
  · refine ev_neg hA ((ev_same (by omega) (by omega) _ _ _ _).bind (ev_pos ?_ (ev_now rfl)))
    rw [lessB_third (Bool.eq_false_iff.2 hA)]
    have : sameB l0 z0 g0 l1 z1 g1 = decide (l0 = l1 ∧ z0 = z1 ∧ g0 = g1) := by
      by_cases h : l0 = l1 ∧ z0 = z1 ∧ g0 = g1
      · rw [decide_eq_true h]; exact sameB_iff.2 h
      · rw [decide_eq_false h, Bool.eq_false_iff]; exact fun h' => h (sameB_iff.1 h')
    rw [this]
    exact beq_self_eq_true _
end Go.Proofs.Yticaoeliokkifaa.Pure
