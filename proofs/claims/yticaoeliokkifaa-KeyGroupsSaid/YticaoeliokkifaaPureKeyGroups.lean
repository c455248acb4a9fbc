/-
  A key's bytes begin with its group's, and with no other group's.
-/
import Derived.Test.YticaoeliokkifaaLibLKeyGroups
import Derived.Test.YticaoeliokkifaaKLaws
import Derived.Test.YticaoeliokkifaaOpen
namespace Go.Proofs.Yticaoeliokkifaa.Pure
set_option linter.unusedSimpArgs false
set_option linter.unusedVariables false
open Go.RowKit Go.Proofs.Yticaoeliokkifaa.Lib Go.Proofs.Yticaoeliokkifaa.Plain Go.Proofs.Yticaoeliokkifaa.Fns Go.Proofs.Yticaoeliokkifaa.KFns Go.Proofs.YticaoeliokkifaaW.PrintWords Go.Proofs.YticaoeliokkifaaW.PrintLast Go.Proofs.YticaoeliokkifaaW.PrintMore
theorem groups_front {l m : List ByteArray} {z g : Int} (h : (kb l z g).take (grp m).length = grp m) : l = m := by
  have e : grp m ++ (kb l z g).drop (grp m).length = kb l z g := by
    conv => rhs; rw [← List.take_append_drop (grp m).length (kb l z g)]
    rw [h]
  generalize (kb l z g).drop (grp m).length = r at e
  rw [kb_eq] at e
  unfold grp at e
  rw [List.append_assoc, List.singleton_append] at e
  exact (grp_inj _ _ _ _ e).1.symm
theorem KeyGroups {A0 A1 : Option Addr} {c0 c1 : Nat} {l0 l1 : List ByteArray} {z0 g0 : Int} (W : World) (t0 : Open.Texts W A0 c0 l0) (iz : Open.I64 z0) (ig : Open.I64 g0) (t1 : Open.Texts W A1 c1 l1) : ∃ n, rickyardlaw06_KeyGroups.f n l0 z0 g0 l1 = some true := by
  apply Ev.rounds
  unfold rickyardlaw06_KeyGroups.f
  have dead : Ev (fun k => rickyardlaw06_KeyGroups.j0 k l1 true l0 z0 g0) true := Ev.step (fun _ => by rw [rickyardlaw06_KeyGroups.j0]) (ev_pos rfl ev_aliveSome)
  refine (ev_long l1).bind ?_
  by_cases h1 : longB l1 = true
  · exact ev_pos h1 dead
  obtain ⟨k1, _⟩ := long_false (Bool.eq_false_iff.2 h1)
  refine ev_neg h1 ((ev_right _ _ _).bind ?_)
  by_cases hR : rightB l0 z0 g0 = true
  · rw [hR]
    have hf := (right_true hR).1
    have f0 := (fits_true hf).1
    have hw : wr l0 z0 g0 = (kb l0 z0 g0, 0) := by unfold wr; rw [if_pos hR]
    have hg : gr l0 = (grp l0, 0) := by unfold gr; rw [if_pos hf]
    have hk : (kb l0 z0 g0).length = (grp l0).length + 9 := by unfold kb; simp [numb_length]
    have hl := grp_length hf
    have htake : (kb l0 z0 g0).take (grp l0).length = grp l0 := by unfold kb; exact List.take_left
    have WL : Aside0 (wrap64 (((grp l0).length : Int) + 9) = ((kb l0 z0 g0).length : Int)) := ⟨by rw [w64 (by omega) (by omega)]; omega⟩
    refine Ev.step (fun _ => by rw [rickyardlaw06_KeyGroups.j0]) (ev_neg (by decide) ?_)
    refine (ev_write _ _ _).bind ((ev_Group _).bind ((ev_Group _).bind ?_))
    rw [hw, hg]
    refine ev_pos rfl (ev_pos WL.out.symm (ev_pos (by show (0 : Int) ≤ ((grp l0).length : Int); omega) (ev_pos (by show ((grp l0).length : Int) ≤ ((kb l0 z0 g0).length : Int); omega) ?_)))
    show Ev (fun k => rickyardlaw06_KeyGroups.j1 k l1 (kb l0 z0 g0) (gr l1).1 (gr l1).2 ((strOfNums ((kb l0 z0 g0).take (((grp l0).length : Int) : Int).toNat)).toList != (strOfNums (grp l0)).toList) l0 z0 g0) true
    rw [Int.toNat_natCast, htake, bne_self_eq_false]
    refine Ev.step (fun _ => by rw [rickyardlaw06_KeyGroups.j1]) (ev_neg (by decide) (ev_alive.bind (ev_pos rfl ?_)))
    by_cases hF : fitsB l1 = true
    · have hg1 : gr l1 = (grp l1, 0) := by unfold gr; rw [if_pos hF]
      rw [hg1]
      refine ev_pos rfl ?_
      show Ev (fun k => if ((grp l1).length : Int) ≤ ((kb l0 z0 g0).length : Int) then (rickyardref06_Order.f k l1 l0).bind fun t233 => some (((strOfNums ((kb l0 z0 g0).take (grp l1).length)).toList == (strOfNums (grp l1)).toList) == (t233 == 0)) else (rickyardref06_Order.f k l1 l0).bind fun t234 => some (false == (t234 == 0))) true
      by_cases hle : ((grp l1).length : Int) ≤ ((kb l0 z0 g0).length : Int)
      · refine ev_pos hle ((ev_order (by omega) (by omega)).bind (ev_now ?_))
        rw [eq_nums ((kb_byt hR).take _) (grp_byt l1)]
        by_cases he : l1 = l0
        · subst he
          rw [ordL_refl, decide_eq_true htake]; rfl
        · have h0 : ordL l1 l0 ≠ 0 := fun e => he (ordL_zero e)
          rw [decide_eq_false (fun e => he (groups_front e).symm), beq_eq_false_iff_ne.2 h0]; rfl
      · refine ev_neg hle ((ev_order (by omega) (by omega)).bind (ev_now ?_))
        have h0 : ordL l1 l0 ≠ 0 := by
          intro e
          have := ordL_zero e
          subst this
          omega
        rw [beq_eq_false_iff_ne.2 h0]; rfl
    · have hg1 : gr l1 = ([], 40) := by unfold gr; rw [if_neg hF]
      rw [hg1]
      exact ev_neg (by show ¬ ((40 : Int) = 0); decide) (ev_now rfl)
  · rw [Bool.eq_false_iff.2 hR]
    exact dead
end Go.Proofs.Yticaoeliokkifaa.Pure
