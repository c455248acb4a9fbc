/-
  A key that may be written is read again from its bytes; bytes that are read are written again.
-/
import Derived.Test.YticaoeliokkifaaLibLKeyBack
import Derived.Test.YticaoeliokkifaaKLaws
import Derived.Test.YticaoeliokkifaaOpen
namespace Go.Proofs.Yticaoeliokkifaa.Pure
set_option linter.unusedSimpArgs false
set_option linter.unusedVariables false
open Go.RowKit Go.Proofs.Yticaoeliokkifaa.Lib Go.Proofs.Yticaoeliokkifaa.Plain Go.Proofs.Yticaoeliokkifaa.Fns Go.Proofs.Yticaoeliokkifaa.KFns Go.Proofs.YticaoeliokkifaaW.PrintWords Go.Proofs.YticaoeliokkifaaW.PrintLast Go.Proofs.YticaoeliokkifaaW.PrintMore
theorem back_tail {l1 : List Int} (hb : Byt l1) (hl : l1.length ≤ 1000) : Ev (fun k => (key_Read.f k l1).bind fun bt227 => ((key_Write.f k bt227.1 bt227.2.1 bt227.2.2.1).bind fun bt234 => ((rickyardlaw06_alive.f k).bind fun t238 => (if t238 = true then (if bt227.2.2.2 = 0 then (if bt234.2 = 0 then (some ((strOfNums bt234.1).toList == (strOfNums l1).toList)) else (some false)) else (some true)) else (some false))))) true := by
  obtain ⟨r, hr, hi⟩ := ev_read hb (by omega)
  refine hr.bind ((ev_write _ _ _).bind (ev_alive.bind (ev_pos rfl ?_)))
  rcases hi with ⟨l, z, g, h1, h2, h3⟩ | ⟨h1, h2⟩
  · have h1' : rightB l z g = true := by simpa using h1
    subst h3
    have hw : wr ([] ++ l) z g = (l1, 0) := by unfold wr; rw [if_pos h1, h2]; rfl
    refine ev_pos rfl ?_
    show Ev (fun k => if (wr ([] ++ l) z g).2 = 0 then _ else _) true
    rw [hw]
    exact ev_pos rfl (ev_now (beq_self_eq_true _))
  · subst h2
    exact ev_neg (by show ¬ ((40 : Int) = 0); decide) (ev_now rfl)
theorem KeyBack {A0 A1 : Option Addr} {c0 c1 : Nat} {l0 : List ByteArray} {z0 g0 : Int} {l1 : List Int} (W : World) (t0 : Open.Texts W A0 c0 l0) (iz : Open.I64 z0) (ig : Open.I64 g0) (t1 : Open.Bytes W A1 c1 l1) : ∃ n, rickyardlaw06_KeyBack.f n l0 z0 g0 l1 = some true := by
  have hb : Byt l1 := t1.2.2.2
  apply Ev.rounds
  unfold rickyardlaw06_KeyBack.f
  refine (ev_long l0).bind ?_
  by_cases h1 : longB l0 = true
  · exact ev_pos h1 (Ev.step (fun _ => by rw [rickyardlaw06_KeyBack.j0]) (ev_pos rfl ev_aliveSome))
  refine ev_neg h1 ?_
  obtain ⟨h2, _⟩ := long_false (Bool.eq_false_iff.2 h1)
  by_cases h3 : (l1.length : Int) > 1000
  · rw [decide_eq_true h3]
    exact Ev.step (fun _ => by rw [rickyardlaw06_KeyBack.j0]) (ev_pos rfl ev_aliveSome)
  rw [decide_eq_false h3]
  refine Ev.step (fun _ => by rw [rickyardlaw06_KeyBack.j0]) (ev_neg (by decide) ?_)
  refine (ev_write _ _ _).bind ((ev_right _ _ _).bind ?_)
  by_cases hR : rightB l0 z0 g0 = true
  · have hw : wr l0 z0 g0 = (kb l0 z0 g0, 0) := by unfold wr; rw [if_pos hR]
    rw [hw, hR]
    refine ev_neg (by show ¬ ((((0 : Int) == 0) != true) = true); decide) (ev_pos rfl ?_)
    have hk := kb_length hR
    obtain ⟨r, hr, hi⟩ := ev_read (kb_byt hR) (by omega)
    have e : r = (l0, z0, g0, 0) := isRead_uniq hi (.inl ⟨l0, z0, g0, by simpa using hR, rfl, by simp⟩)
    subst e
    refine hr.bind (ev_pos rfl ((ev_same (l := l0) (m := l0) (by omega) (by omega) _ _ _ _).bind ?_))
    rw [show sameB l0 z0 g0 l0 z0 g0 = true from sameB_iff.2 ⟨rfl, rfl, rfl⟩]
    exact Ev.step (fun _ => by rw [rickyardlaw06_KeyBack.j1]) (ev_neg (by decide) (back_tail hb (by omega)))
  · have hw : wr l0 z0 g0 = ([], 40) := by unfold wr; rw [if_neg hR]
    rw [hw, Bool.eq_false_iff.2 hR]
    exact ev_neg (by decide) (ev_neg (by show ¬ ((40 : Int) = 0); decide) (back_tail hb (by omega)))
end Go.Proofs.Yticaoeliokkifaa.Pure
