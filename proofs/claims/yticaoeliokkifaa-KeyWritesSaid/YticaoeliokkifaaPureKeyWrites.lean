/-
  The writer and the reader tell what the reference's tell, for every key and all bytes.
-/
import Derived.Test.YticaoeliokkifaaLibLKeyWrites
import Derived.Test.YticaoeliokkifaaKLaws
import Derived.Test.YticaoeliokkifaaOpen
namespace Go.Proofs.Yticaoeliokkifaa.Pure
set_option linter.unusedSimpArgs false
set_option linter.unusedVariables false
open Go.RowKit Go.Proofs.Yticaoeliokkifaa.Lib Go.Proofs.Yticaoeliokkifaa.Plain Go.Proofs.Yticaoeliokkifaa.Fns Go.Proofs.Yticaoeliokkifaa.KFns Go.Proofs.YticaoeliokkifaaW.PrintWords Go.Proofs.YticaoeliokkifaaW.PrintLast Go.Proofs.YticaoeliokkifaaW.PrintMore
theorem KeyWrites {A0 A1 : Option Addr} {c0 c1 : Nat} {l0 : List ByteArray} {z0 g0 : Int} {l1 : List Int} (W : World) (t0 : Open.Texts W A0 c0 l0) (iz : Open.I64 z0) (ig : Open.I64 g0) (t1 : Open.Bytes W A1 c1 l1) : ∃ n, rickyardlaw06_KeyWrites.f n l0 z0 g0 l1 = some true := by
  have hb : Byt l1 := t1.2.2.2
  apply Ev.rounds
  unfold rickyardlaw06_KeyWrites.f
  refine (ev_long l0).bind ?_
  by_cases h1 : longB l0 = true
  · exact ev_pos h1 (Ev.step (fun _ => by rw [rickyardlaw06_KeyWrites.j0]) (ev_pos rfl ev_aliveSome))
  refine ev_neg h1 ?_
  obtain ⟨h2, _⟩ := long_false (Bool.eq_false_iff.2 h1)
  by_cases h3 : (l1.length : Int) > 1000
  · rw [decide_eq_true h3]
    exact Ev.step (fun _ => by rw [rickyardlaw06_KeyWrites.j0]) (ev_pos rfl ev_aliveSome)
  rw [decide_eq_false h3]
  obtain ⟨r, hr, hi⟩ := ev_read hb (by omega)
  obtain ⟨r', hr', hi'⟩ := ev_refRead hb (by omega)
  have e := isRead_uniq hi' hi
  subst e
  have hl := isRead_len hi
  refine Ev.step (fun _ => by rw [rickyardlaw06_KeyWrites.j0]) (ev_neg (by decide) ?_)
  refine (ev_write _ _ _).bind ((ev_refWrite _ _ _).bind (hr.bind (hr'.bind (ev_alive.bind (ev_pos rfl ((ev_right _ _ _).bind ((ev_refRight _ _ _).bind ?_)))))))
  refine ev_pos (beq_self_eq_true _) (ev_pos rfl (ev_pos rfl ((ev_same (by omega) (by omega) _ _ _ _).bind ?_)))
  exact ev_pos (sameB_iff.2 ⟨rfl, rfl, rfl⟩) (ev_now (beq_self_eq_true _))
end Go.Proofs.Yticaoeliokkifaa.Pure
