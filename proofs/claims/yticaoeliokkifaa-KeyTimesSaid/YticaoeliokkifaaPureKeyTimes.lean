/-
  The bytes of keys stand in the order of their times, behind that of their texts.
-/
import Derived.Test.YticaoeliokkifaaLibLKeyTimes
import Derived.Test.YticaoeliokkifaaKLaws
import Derived.Test.YticaoeliokkifaaOpen
namespace Go.Proofs.Yticaoeliokkifaa.Pure
set_option linter.unusedSimpArgs false
set_option linter.unusedVariables false
open Go.RowKit Go.Proofs.Yticaoeliokkifaa.Lib Go.Proofs.Yticaoeliokkifaa.Plain Go.Proofs.Yticaoeliokkifaa.Fns Go.Proofs.Yticaoeliokkifaa.KFns Go.Proofs.YticaoeliokkifaaW.PrintWords Go.Proofs.YticaoeliokkifaaW.PrintLast Go.Proofs.YticaoeliokkifaaW.PrintMore
theorem KeyTimes {A0 A1 : Option Addr} {c0 c1 : Nat} {l0 l1 : List ByteArray} {a2 a3 a4 a5 : Int} (W : World) (t0 : Open.Texts W A0 c0 l0) (t1 : Open.Texts W A1 c1 l1) (i2 : Open.I64 a2) (i3 : Open.I64 a3) (i4 : Open.I64 a4) (i5 : Open.I64 a5) : ∃ n, rickyardlaw06_KeyTimes.f n l0 l1 a2 a3 a4 a5 = some true := by
  apply Ev.rounds
  unfold rickyardlaw06_KeyTimes.f
  refine (ev_long l0).bind ?_
  by_cases h1 : longB l0 = true
  · exact ev_pos h1 (Ev.step (fun _ => by rw [rickyardlaw06_KeyTimes.j0]) (ev_pos rfl ev_aliveSome))
  refine ev_neg h1 ((ev_long l1).bind ?_)
  obtain ⟨h2, _⟩ := long_false (Bool.eq_false_iff.2 h1)
  by_cases h3 : longB l1 = true
  · rw [h3]
    exact Ev.step (fun _ => by rw [rickyardlaw06_KeyTimes.j0]) (ev_pos rfl ev_aliveSome)
  obtain ⟨h4, _⟩ := long_false (Bool.eq_false_iff.2 h3)
  rw [Bool.eq_false_iff.2 h3]
  refine Ev.step (fun _ => by rw [rickyardlaw06_KeyTimes.j0]) (ev_neg (by decide) ?_)
  refine (ev_write _ _ _).bind ((ev_write _ _ _).bind ((ev_write _ _ _).bind ?_))
  have dead : ∀ (a b c : List Int) (d : Int), Ev (fun k => rickyardlaw06_KeyTimes.j1 k l0 l1 a2 a3 a4 a5 a b c d true) true := fun a b c d => Ev.step (fun _ => by rw [rickyardlaw06_KeyTimes.j1]) (ev_pos rfl ev_aliveSome)
  by_cases hR : rightB l0 a2 a4 = true
  · have hw : wr l0 a2 a4 = (kb l0 a2 a4, 0) := by unfold wr; rw [if_pos hR]
    rw [hw]
    refine ev_pos rfl ?_
    by_cases hR2 : rightB l0 a3 a5 = true
    · have hw2 : wr l0 a3 a5 = (kb l0 a3 a5, 0) := by unfold wr; rw [if_pos hR2]
      rw [hw2]
      have e1 : Op.bytesLess (strOfNums (kb l0 a2 a4)).toList (strOfNums (kb l0 a3 a5)).toList = lessB l0 a2 a4 l0 a3 a5 := by rw [less_strOfNums (kb_byt hR) (kb_byt hR2), kb_lts hR hR2]
      have fin : Ev (fun k => rickyardlaw06_KeyTimes.j2 k l0 l1 (kb l0 a2 a4) (wr l1 a3 a5).1 (wr l1 a3 a5).2 false) true := by
        refine Ev.step (fun _ => by rw [rickyardlaw06_KeyTimes.j2]) (ev_neg (by decide) ((ev_order (by omega) (by omega)).bind (ev_alive.bind (ev_pos rfl ?_))))
        by_cases hR3 : rightB l1 a3 a5 = true
        · have hw3 : wr l1 a3 a5 = (kb l1 a3 a5, 0) := by unfold wr; rw [if_pos hR3]
          rw [hw3]
          refine ev_pos rfl ?_
          by_cases ho : ordL l0 l1 = 0
          · exact ev_pos ho (ev_now rfl)
          · refine ev_neg ho (ev_now ?_)
            rw [less_strOfNums (kb_byt hR) (kb_byt hR3), kb_lts hR hR3]
            unfold lessB
            rw [if_neg ho]
            exact beq_self_eq_true _
        · have hw3 : wr l1 a3 a5 = ([], 40) := by unfold wr; rw [if_neg hR3]
          rw [hw3]
          exact ev_neg (by show ¬ ((40 : Int) = 0); decide) (ev_now rfl)
      refine Ev.step (fun _ => by rw [rickyardlaw06_KeyTimes.j1]) (ev_neg (by show ¬ (((0 : Int) != 0) = true); decide) ?_)
      show Ev (fun k => if a2 < a3 then rickyardlaw06_KeyTimes.j2 k l0 l1 (kb l0 a2 a4) (wr l1 a3 a5).1 (wr l1 a3 a5).2 ((Op.bytesLess (strOfNums (kb l0 a2 a4)).toList (strOfNums (kb l0 a3 a5)).toList) != true) else (if a2 = a3 then rickyardlaw06_KeyTimes.j2 k l0 l1 (kb l0 a2 a4) (wr l1 a3 a5).1 (wr l1 a3 a5).2 ((Op.bytesLess (strOfNums (kb l0 a2 a4)).toList (strOfNums (kb l0 a3 a5)).toList) != (decide (a4 < a5))) else rickyardlaw06_KeyTimes.j2 k l0 l1 (kb l0 a2 a4) (wr l1 a3 a5).1 (wr l1 a3 a5).2 ((Op.bytesLess (strOfNums (kb l0 a2 a4)).toList (strOfNums (kb l0 a3 a5)).toList) != false))) true
      rw [e1]
      have e2 : lessB l0 a2 a4 l0 a3 a5 = if a2 = a3 then decide (a4 < a5) else decide (a2 < a3) := by unfold lessB; rw [if_pos (ordL_refl l0)]
      rw [e2]
      by_cases k1 : a2 < a3
      · refine ev_pos k1 ?_
        rw [if_neg (by omega), decide_eq_true k1]
        exact fin
      · refine ev_neg k1 ?_
        by_cases k2 : a2 = a3
        · refine ev_pos k2 ?_
          rw [if_pos k2, bne_self_eq_false]
          exact fin
        · refine ev_neg k2 ?_
          rw [if_neg k2, decide_eq_false k1]
          exact fin
    · have hw2 : wr l0 a3 a5 = ([], 40) := by unfold wr; rw [if_neg hR2]
      rw [hw2]
      exact dead _ _ _ _
  · have hw : wr l0 a2 a4 = ([], 40) := by unfold wr; rw [if_neg hR]
    rw [hw]
    exact ev_neg (by show ¬ ((40 : Int) = 0); decide) (dead _ _ _ _)
end Go.Proofs.Yticaoeliokkifaa.Pure
