/-
  The order of keys is that of their bytes, and no key's bytes begin another's.
-/
import Derived.Test.YticaoeliokkifaaLibLKeyOrdered
import Derived.Test.YticaoeliokkifaaKLaws
import Derived.Test.YticaoeliokkifaaOpen
namespace Go.Proofs.Yticaoeliokkifaa.Pure
set_option linter.unusedSimpArgs false
set_option linter.unusedVariables false
open Go.RowKit Go.Proofs.Yticaoeliokkifaa.Lib Go.Proofs.Yticaoeliokkifaa.Plain Go.Proofs.Yticaoeliokkifaa.Fns Go.Proofs.Yticaoeliokkifaa.KFns Go.Proofs.YticaoeliokkifaaW.PrintWords Go.Proofs.YticaoeliokkifaaW.PrintLast Go.Proofs.YticaoeliokkifaaW.PrintMore
theorem KeyOrdered {A0 A1 : Option Addr} {c0 c1 : Nat} {l0 l1 : List ByteArray} {z0 g0 z1 g1 : Int} (W : World) (t0 : Open.Texts W A0 c0 l0) (iz : Open.I64 z0) (ig : Open.I64 g0) (t1 : Open.Texts W A1 c1 l1) (iz1 : Open.I64 z1) (ig1 : Open.I64 g1) : ∃ n, rickyardlaw06_KeyOrdered.f n l0 z0 g0 l1 z1 g1 = some true := by
  apply Ev.rounds
  unfold rickyardlaw06_KeyOrdered.f
  have dead : Ev (fun k => rickyardlaw06_KeyOrdered.j0 k true l0 z0 g0 l1 z1 g1) true := Ev.step (fun _ => by rw [rickyardlaw06_KeyOrdered.j0]) (ev_pos rfl ev_aliveSome)
  refine (ev_right _ _ _).bind ?_
  by_cases hR : rightB l0 z0 g0 = true
  · refine ev_pos hR ((ev_right _ _ _).bind ?_)
    by_cases hR2 : rightB l1 z1 g1 = true
    · rw [hR2]
      have hw : wr l0 z0 g0 = (kb l0 z0 g0, 0) := by unfold wr; rw [if_pos hR]
      have hw2 : wr l1 z1 g1 = (kb l1 z1 g1, 0) := by unfold wr; rw [if_pos hR2]
      have f0 := (fits_true (right_true hR).1).1
      have f1 := (fits_true (right_true hR2).1).1
      refine Ev.step (fun _ => by rw [rickyardlaw06_KeyOrdered.j0]) (ev_neg (by decide) ?_)
      refine (ev_write _ _ _).bind ((ev_write _ _ _).bind ((ev_less (by omega) (by omega) _ _ _ _).bind ((ev_less (by omega) (by omega) _ _ _ _).bind ?_)))
      rw [hw, hw2]
      have e1 : Op.bytesLess (strOfNums (kb l0 z0 g0)).toList (strOfNums (kb l1 z1 g1)).toList = lessB l0 z0 g0 l1 z1 g1 := by rw [less_strOfNums (kb_byt hR) (kb_byt hR2), kb_lts hR hR2]
      have e2 : ((strOfNums (kb l0 z0 g0)).toList == (strOfNums (kb l1 z1 g1)).toList) = decide (l0 = l1 ∧ z0 = z1 ∧ g0 = g1) := by
        rw [eq_nums (kb_byt hR) (kb_byt hR2)]
        exact decide_eq_decide.2 ⟨fun h => kb_inj' (right_i64 hR) (right_i64 hR2) h, fun ⟨a, b, c⟩ => by rw [a, b, c]⟩
      refine ev_pos rfl (ev_pos rfl ?_)
      have tail : Ev (fun k => (rickyardlaw06_alive.f k).bind fun t226 => (if t226 = true then (if ((kb l0 z0 g0).length : Int) ≥ ((kb l1 z1 g1).length : Int) then (some true) else (if 0 ≤ ((kb l0 z0 g0).length : Int) then (if ((kb l0 z0 g0).length : Int) ≤ ((kb l1 z1 g1).length : Int) then (some ((strOfNums ((kb l1 z1 g1).take (((kb l0 z0 g0).length : Int) : Int).toNat)).toList != (strOfNums (kb l0 z0 g0)).toList)) else (none)) else (none))) else (some false))) true := by
        refine ev_alive.bind (ev_pos rfl ?_)
        by_cases hl : ((kb l0 z0 g0).length : Int) ≥ ((kb l1 z1 g1).length : Int)
        · exact ev_pos hl (ev_now rfl)
        · refine ev_neg hl (ev_pos (by omega) (ev_pos (by omega) (ev_now ?_)))
          rw [Int.toNat_natCast]
          have hne : (strOfNums ((kb l1 z1 g1).take (kb l0 z0 g0).length)).toList ≠ (strOfNums (kb l0 z0 g0)).toList := by
            intro h
            have h := (byt_eq ((kb_byt hR2).take _) (kb_byt hR)).1 h
            exact hl (by have := kb_front h; omega)
          simp only [bne_iff_ne]
          exact hne
      by_cases hA : lessB l0 z0 g0 l1 z1 g1 = true
      · have hB := lessB_asymm hA
        have hN : ¬ (l0 = l1 ∧ z0 = z1 ∧ g0 = g1) := by
          rintro ⟨rfl, rfl, rfl⟩
          rw [lessB_irrefl] at hA
          exact absurd hA (by decide)
        refine ev_pos hA (ev_neg (by rw [hB]; decide) (ev_neg ?_ (ev_neg ?_ tail)))
        · show ¬ ((Op.bytesLess (strOfNums (kb l0 z0 g0)).toList (strOfNums (kb l1 z1 g1)).toList != lessB l0 z0 g0 l1 z1 g1) = true)
          rw [e1]; simp
        · show ¬ ((((strOfNums (kb l0 z0 g0)).toList == (strOfNums (kb l1 z1 g1)).toList) != false) = true)
          rw [e2, decide_eq_false hN]; decide
      · refine ev_neg hA (ev_neg ?_ (ev_neg ?_ tail))
        · show ¬ ((Op.bytesLess (strOfNums (kb l0 z0 g0)).toList (strOfNums (kb l1 z1 g1)).toList != lessB l0 z0 g0 l1 z1 g1) = true)
          rw [e1]; simp
        · show ¬ ((((strOfNums (kb l0 z0 g0)).toList == (strOfNums (kb l1 z1 g1)).toList) != !lessB l1 z1 g1 l0 z0 g0) = true)
          rw [e2, lessB_third (Bool.eq_false_iff.2 hA), Bool.not_not]; simp
    · rw [Bool.eq_false_iff.2 hR2]
      exact dead
  · exact ev_neg hR dead
end Go.Proofs.Yticaoeliokkifaa.Pure
