/-
  The law FeedNobody, walked: it answers true for every number and either kind, and leaves what was there as it was; no condition.
-/
import Derived.Test.YtgbgakbbkacplaaAlive
namespace Go.Proofs.Ytgbgakbbkacplaa.Feed
set_option linter.unusedSimpArgs false
set_option linter.unusedVariables false
open Go.Conc Go.RowKit
set_option maxRecDepth 100000 in
theorem nobody_walk (v : Int) (u : Bool) (w : World) : Calls Try.prog 7 #[.int .i64 v, .bool u] w fun e w' => e = .returned (.bool true) ∧ Below w.heap.size w w' := by
  go_enter Try.func7, Try.ntmps7
  go_wp2_with fail
  refine (len_nil _).mono ?_
  rintro e w1 ⟨rfl, rfl⟩
  go_wp2_with fail
  have hz : (w.alloc (.cells #[.chan none, .chan none, .bool false] 47)).cell? ⟨w.heap.size, 1, none⟩ = some (.chan none) := by
    unfold World.cell?
    rw [heap_alloc_new w _]
    rfl
  refine (len_zero _ _ hz).mono ?_
  rintro e w1 ⟨rfl, rfl⟩
  go_wp2_with fail
  refine (take_nil _).mono ?_
  rintro e w1 ⟨rfl, rfl⟩
  go_wp2_with fail
  refine (take_zero _ _ hz).mono ?_
  rintro e w1 ⟨rfl, rfl⟩
  go_wp2_with fail
  refine (alive_true _).mono ?_
  rintro e w1 ⟨rfl, hB⟩
  have hz1 := hB.cell (p := ⟨w.heap.size, 1, none⟩) (by simp)
  rw [hz] at hz1
  clear hz
  have hB1 : Below w.heap.size w w1 := ((Below.refl _ w).alloc (Nat.le_refl _) _).trans (hB.mono (by simp))
  go_wp2_with fail
  refine (put_nil _ _ _).mono ?_
  rintro e w2 ⟨rfl, rfl⟩
  go_wp2_with fail
  refine (put_zero _ _ _ _ hz1).mono ?_
  rintro e w2 ⟨rfl, rfl⟩
  go_wp2_with fail
  refine (close_nil _).mono ?_
  rintro e w2 ⟨rfl, rfl⟩
  go_wp2_with fail
  refine (close_zero _ _ hz1).mono ?_
  rintro e w2 ⟨rfl, rfl⟩
  go_wp2
  go_ret
  exact ⟨rfl, hB1⟩
end Go.Proofs.Ytgbgakbbkacplaa.Feed
