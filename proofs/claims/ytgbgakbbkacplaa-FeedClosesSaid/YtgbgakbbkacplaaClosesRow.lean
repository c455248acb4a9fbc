/-
  The law FeedCloses, walked over a slice as the row opens it; conditions: those that the theorem states.
-/
import Derived.Test.YtgbgakbbkacplaaRow
namespace Go.Proofs.Ytgbgakbbkacplaa.Feed
open Go.RowKit
theorem closes_row (a0 : Int) (a1 : Option Addr) (len1 cap1 : Nat) (z1 : List Int) (a2 : Bool) (a3 : Int) (w : World)
    (w1 : (a1 = none ∧ len1 = 0 ∧ cap1 = 0 ∧ z1 = []) ∨ ∃ x, a1 = some x ∧ len1 ≤ cap1 ∧ cap1 ≤ maxLen ∧ z1.length = cap1 ∧ (∀ i, i < z1.length → w.cell? (x.add i) = some (.int .i64 (z1.getD i 0))) ∧ ∀ n ∈ z1, (Lit.int .i64 n).wf = true) (y1 : len1 * 8 ≤ 140737488351232) :
    Calls Try.prog 5 #[.int .i64 a0, .slice a1 len1 cap1, .bool a2, .int .i64 a3] w fun e w' => e = .returned (.bool true) ∧ Below w.heap.size w w' := by
  have hl : (z1.take len1).length = len1 := by
    rw [List.length_take]
    rcases w1 with ⟨_, h1, h2, h3⟩ | ⟨x, _, h1, _, h2, _⟩
    · subst h1; subst h3; rfl
    · omega
  have := closes_walk a0 a1 (z1.take len1) cap1 a2 a3 w (by omega) (fun i hi => by
    rcases w1 with ⟨_, h1, _, h3⟩ | ⟨x, hx, h1, _, h2, hc, _⟩
    · subst h1; simp at hi
    · refine ⟨x, hx, ?_⟩
      rw [hc i (by omega), List.getD_eq_getElem?_getD, List.getD_eq_getElem?_getD, List.getElem?_take_of_lt (by omega)])
  rw [hl] at this
  exact this
end Go.Proofs.Ytgbgakbbkacplaa.Feed
