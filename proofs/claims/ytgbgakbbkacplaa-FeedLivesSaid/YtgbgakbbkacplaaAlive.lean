/-
  The fixed calls of the feed's laws ('alive') answer true, and leave what was there as it was; no condition.
-/
import Derived.Test.YtgbgakbbkacplaaMore
namespace Go.Proofs.Ytgbgakbbkacplaa.Feed
set_option linter.unusedSimpArgs false
set_option linter.unusedVariables false
open Go.Conc Go.RowKit
set_option maxRecDepth 100000 in
theorem alive_true (w : World) : Calls Try.prog 9 #[] w fun e w' => e = .returned (.bool true) ∧ Below w.heap.size w w' := by
  go_enter Try.func9, Try.ntmps9
  go_wp2_with fail
  refine (new_good 2 (by omega) (by omega) _).mono ?_
  rintro e w1 ⟨b, c1, c2, rfl, hF, hb, hc1, hc2, hB⟩
  go_wp2_with fail
  refine (put_other (us := []) (os := []) 5 hF (by decide)).mono ?_
  rintro e w2 ⟨rfl, hF2, hR2⟩
  go_wp2_with fail
  refine (put_urgent (us := []) 7 hF2 (by decide)).mono ?_
  rintro e w3 ⟨rfl, hF3, hR3⟩
  go_wp2_with fail
  refine (take_urgent (us := []) (v := 7) hF3).mono ?_
  rintro e w4 ⟨rfl, hF4, hR4⟩
  go_wp2_with fail
  refine (take_other (os := []) (v := 5) hF4).mono ?_
  rintro e w5 ⟨rfl, hF5, hR5⟩
  go_wp2_with fail
  refine (take_none hF5).mono ?_
  rintro e w6 ⟨rfl, rfl⟩
  go_wp2
  go_ret
  refine ⟨rfl, ?_⟩
  exact hR5.below _ _ hb hc1 hc2 (hR4.below _ _ hb hc1 hc2 (hR3.below _ _ hb hc1 hc2 (hR2.below _ _ hb hc1 hc2 hB)))
end Go.Proofs.Ytgbgakbbkacplaa.Feed
