/-
  A word for a walk: the world behind calls that only draw, under a name.
-/
import Derived.Test.YtjgcllkcppmmaaaWWords
namespace Go.Proofs.YtjgcllkcppmmaaaW.PrintWords
theorem name_draws {P : Program} {c : Code} {Q : Exit → Act → World → Prop} {a : Act} {w0 w : World} (hb : Drawn0 w0 w) (h : ∀ n, c.wp P Q a (w0.drewN n)) : c.wp P Q a w := by
  obtain ⟨n, rfl⟩ := hb.out
  exact h n
end Go.Proofs.YtjgcllkcppmmaaaW.PrintWords
