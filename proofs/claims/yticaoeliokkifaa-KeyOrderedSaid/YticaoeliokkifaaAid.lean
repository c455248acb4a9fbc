/-
  A word for a walk: the world behind calls that only draw, under a name.
-/
import Derived.Test.YticaoeliokkifaaWWords
import Derived.Test.YticaoeliokkifaaLib0
namespace Go.Proofs.YticaoeliokkifaaW.PrintWords
theorem name_draws {P : Program} {c : Code} {Q : Exit → Act → World → Prop} {a : Act} {w0 w : World} (hb : Drawn0 w0 w) (h : ∀ n, c.wp P Q a (w0.drewN n)) : c.wp P Q a w := by
  obtain ⟨n, rfl⟩ := hb.out
  exact h n
end Go.Proofs.YticaoeliokkifaaW.PrintWords
namespace Go.Proofs.Yticaoeliokkifaa.Lib
set_option linter.unusedVariables false
open Go.RowKit Go.Proofs.YticaoeliokkifaaW.PrintWords Go.Proofs.YticaoeliokkifaaW.PrintLast Go.Proofs.YticaoeliokkifaaW.PrintMore
/-- What is asked of a world, so that a row of bytes of the call's own tells its text there. -/
theorem conv_ex {w : World} {base : Nat} {ok : Nat → Prop} {v : Value} {l : List Int} (h : Kd.R (Kd.int .u8) 5 w base ok v l) : ∃ cv : World → Prop, cv = fun w' => (convert 25 9 v).run Try.prog w' = .ok (.string (strOfNums l)) w' ∧ ∀ A c, v = .slice A l.length c → Kd.C (Kd.int .u8) w' A l.length l := ⟨_, rfl⟩
theorem conv_pf {w : World} {base : Nat} {ok : Nat → Prop} {v : Value} {l : List Int} (h : Kd.R (Kd.int .u8) 5 w base ok v l) : (convert 25 9 v).run Try.prog w = .ok (.string (strOfNums l)) w ∧ ∀ A c, v = .slice A l.length c → Kd.C (Kd.int .u8) w A l.length l := by
  refine ⟨own_string (P := Try.prog) Try.underlying25 Try.underlying5 Try.underlying9 (Kd.own_of_R h), fun A c e => ?_⟩
  subst e
  exact (Kd.R_reads' h).2.2
end Go.Proofs.Yticaoeliokkifaa.Lib
