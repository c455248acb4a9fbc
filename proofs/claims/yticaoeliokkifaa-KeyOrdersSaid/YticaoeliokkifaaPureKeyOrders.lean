/-
  Groups, parts and the order of keys are as the reference has them.
-/
import Derived.Test.YticaoeliokkifaaLibLKeyOrders
import Derived.Test.YticaoeliokkifaaKLaws
import Derived.Test.YticaoeliokkifaaOpen
namespace Go.Proofs.Yticaoeliokkifaa.Pure
set_option linter.unusedSimpArgs false
set_option linter.unusedVariables false
open Go.RowKit Go.Proofs.Yticaoeliokkifaa.Lib Go.Proofs.Yticaoeliokkifaa.Plain Go.Proofs.Yticaoeliokkifaa.Fns Go.Proofs.Yticaoeliokkifaa.KFns Go.Proofs.YticaoeliokkifaaW.PrintWords Go.Proofs.YticaoeliokkifaaW.PrintLast Go.Proofs.YticaoeliokkifaaW.PrintMore
theorem KeyOrders {A0 A1 : Option Addr} {c0 c1 : Nat} {l0 l1 : List ByteArray} {z0 g0 z1 g1 a2 : Int} (W : World) (t0 : Open.Texts W A0 c0 l0) (iz : Open.I64 z0) (ig : Open.I64 g0) (t1 : Open.Texts W A1 c1 l1) (iz1 : Open.I64 z1) (ig1 : Open.I64 g1) (i2 : Open.I64 a2) : ∃ n, rickyardlaw06_KeyOrders.f n l0 z0 g0 l1 z1 g1 a2 = some true := by
  apply Ev.rounds
  unfold rickyardlaw06_KeyOrders.f
  have dead : Ev (fun k => rickyardlaw06_KeyOrders.j0 k a2 true l0 z0 g0 l1 z1 g1) true := Ev.step (fun _ => by rw [rickyardlaw06_KeyOrders.j0]) (ev_pos rfl ev_aliveSome)
  refine (ev_long l0).bind ?_
  by_cases h0 : longB l0 = true
  · exact ev_pos h0 dead
  refine ev_neg h0 ((ev_long l1).bind ?_)
  by_cases h1 : longB l1 = true
  · rw [h1]; exact dead
  rw [Bool.eq_false_iff.2 h1]
  obtain ⟨k0, _⟩ := long_false (Bool.eq_false_iff.2 h0)
  obtain ⟨k1, _⟩ := long_false (Bool.eq_false_iff.2 h1)
  have ha := i2.2
  have hp := partL_length l0 a2
  refine Ev.step (fun _ => by rw [rickyardlaw06_KeyOrders.j0]) (ev_neg (by decide) ?_)
  refine (ev_Group _).bind ((ev_refGroup _).bind ((ev_part (by omega) (by omega)).bind ((ev_refPart (by omega) (by omega)).bind (ev_alive.bind (ev_pos rfl ?_)))))
  refine (ev_less (by omega) (by omega) _ _ _ _).bind ((ev_refLess (by omega) (by omega) _ _ _ _).bind (ev_pos (beq_self_eq_true _) (ev_pos rfl (ev_pos rfl ?_))))
  exact (ev_order (by omega) (by omega)).bind (ev_pos (ordL_refl _) (ev_now (beq_self_eq_true _)))
end Go.Proofs.Yticaoeliokkifaa.Pure
