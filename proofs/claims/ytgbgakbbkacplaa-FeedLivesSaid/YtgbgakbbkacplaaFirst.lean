/-
  The law FeedFirst, walked over a slice of calls; conditions: those that the theorem states.
-/
import Derived.Test.YtgbgakbbkacplaaAlive
import Derived.Lib.Hide
import Derived.Deep.LoopGhost
namespace Go.Proofs.Ytgbgakbbkacplaa.Feed
set_option linter.unusedSimpArgs false
set_option linter.unusedVariables false
open Go.Conc Go.RowKit
section
variable {w : World} {b c1 c2 room : Nat} {us os : List Int} {cl : Bool}
theorem Fd.alloc (h : Fd w b c1 c2 room us os cl) (o : Obj) : Fd (w.alloc o) b c1 c2 room us os cl := by
  obtain ⟨su, ru, h1⟩ := h.u
  obtain ⟨so, ro, h2⟩ := h.o
  exact ⟨by rw [Below.heap_alloc _ _ _ (lt_of_heap h.blk)]; exact h.blk, ⟨su, ru, by rw [Below.heap_alloc _ _ _ (lt_of_heap h1)]; exact h1⟩, ⟨so, ro, by rw [Below.heap_alloc _ _ _ (lt_of_heap h2)]; exact h2⟩, h.ne⟩
/-- What Put may come to. -/
def PutTo (b c1 c2 room : Nat) (w : World) (e : Ending) (w' : World) : Prop := ∃ (r : Int) (us os : List Int), e = .returned (.int .i64 r) ∧ Fd w' b c1 c2 room us os false ∧ us.length ≤ room ∧ os.length ≤ room ∧ Fr b c1 c2 w w'
theorem put_any (v : Int) (u : Bool) (h : Fd w b c1 c2 room us os false) (h1 : us.length ≤ room) (h2 : os.length ≤ room) : Calls Try.prog 10 #[.pointer (some ⟨b, 0, none⟩), .int .i64 v, .bool u] w (PutTo b c1 c2 room w) := by
  cases u
  · by_cases hr : os.length < room
    · exact (put_other v h hr).mono fun e w' ⟨he, hF, hR⟩ => ⟨_, _, _, he, hF, h1, by simp; omega, hR⟩
    · exact (put_other_full v h (by omega)).mono fun e w' ⟨he, hw⟩ => ⟨_, _, _, he, hw ▸ h, h1, h2, hw ▸ Fr.refl w⟩
  · by_cases hr : us.length < room
    · exact (put_urgent v h hr).mono fun e w' ⟨he, hF, hR⟩ => ⟨_, _, _, he, hF, by simp; omega, h2, hR⟩
    · exact (put_urgent_full v h (by omega)).mono fun e w' ⟨he, hw⟩ => ⟨_, _, _, he, hw ▸ h, h1, h2, hw ▸ Fr.refl w⟩
end
/-- Calls as they came in: at i their kind, their number, are they urgent. -/
def OpsAt (w : World) (A : Option Addr) (l : List (Int × Int × Bool)) : Prop :=
  ∀ i, (h : i < l.length) → ∃ b off, A = some ⟨b, off, none⟩ ∧ b < w.heap.size ∧ w.cell? ⟨b, off + i * 3, none⟩ = some (.int .i64 l[i].1) ∧ w.cell? ⟨b, off + i * 3 + 1, none⟩ = some (.int .i64 l[i].2.1) ∧ w.cell? ⟨b, off + i * 3 + 2, none⟩ = some (.bool l[i].2.2)

set_option maxHeartbeats 4000000 in
set_option maxRecDepth 100000 in
theorem first_walk (room : Int) (A : Option Addr) (l : List (Int × Int × Bool)) (cap : Nat) (w : World) (hlen : l.length ≤ maxLen) (hc : OpsAt w A l) :
    Calls Try.prog 4 #[.int .i64 room, .slice A l.length cap] w fun e w' => e = .returned (.bool true) ∧ Below w.heap.size w w' := by
  unfold maxLen at hlen
  by_cases hbad : room < 1 ∨ 64 < room
  · go_enter Try.func4, Try.ntmps4
    go_wp2_with fail
    refine (new_bad room hbad _).mono ?_
    rintro e w1 ⟨rfl, rfl⟩
    go_wp2_with fail
    refine (alive_true _).mono ?_
    rintro e w1 ⟨rfl, hB⟩
    go_wp2
    go_ret
    exact ⟨rfl, hB⟩
  · obtain ⟨n, rfl⟩ := Int.eq_ofNat_of_zero_le (by omega : 0 ≤ room)
    have hn1 : 1 ≤ n := by omega
    have hn2 : n ≤ 64 := by omega
    clear hbad
    have HC := Lib.hid hc
    clear hc
    go_enter Try.func4, Try.ntmps4
    go_wp2_with fail
    refine (new_good n hn1 hn2 _).mono ?_
    rintro e w1 ⟨b, c1, c2, rfl, hF, hb, hc1, hc2, hB⟩
    go_wp2_with fail
    go_loopw [7] (fun i wr => ∃ (j : Nat) (us os : List Int), j ≤ l.length ∧ j ≤ 300 ∧ i = .int .i64 j ∧ Fd wr b c1 c2 n us os false ∧ us.length ≤ n ∧ os.length ≤ n ∧ Below w.heap.size w wr) (fun i _ => 300 - (intOf i).toNat)
    case atStart => exact ⟨0, [], [], by omega, by omega, rfl, hF, by simp, by simp, hB⟩
    case round =>
      clear hF hB
      obtain ⟨j, us, os, hj1, hj2, rfl, hF, hu, ho, hB⟩ := hrel
      by_cases hlt : j < l.length ∧ j < 300
      · obtain ⟨hl1, hl2⟩ := hlt
        obtain ⟨xb, xo, rfl, hxb, x0, x1, x2⟩ := HC.out j hl1
        replace x0 := (hB.cell (p := ⟨xb, xo + j * 3, none⟩) hxb).trans x0
        replace x1 := (hB.cell (p := ⟨xb, xo + j * 3 + 1, none⟩) hxb).trans x1
        replace x2 := (hB.cell (p := ⟨xb, xo + j * 3 + 2, none⟩) hxb).trans x2
        have t1 : decide (j < l.length) = true := decide_eq_true hl1
        have t2 : decide ((j : Int) < 300) = true := decide_eq_true (by omega)
        rcases hop : l[j] with ⟨k, kv, ku⟩
        rw [hop] at x0 x1 x2
        have hF1 := hF.alloc (.cells #[.int .i64 k, .int .i64 kv, .bool ku] 31)
        have hB1 := hB.alloc hB.size (.cells #[.int .i64 k, .int .i64 kv, .bool ku] 31)
        clear hop HC
        by_cases hk : k = 0
        · subst hk
          go_wp2_with fail
          refine (put_any kv ku hF1 hu ho).mono ?_
          rintro e w2 ⟨r, us2, os2, rfl, hF2, hu2, ho2, hR⟩
          have hB2 := hR.below _ _ hb hc1 hc2 hB1
          clear hF hB hF1 hB1 hR hu ho x0 x1 x2
          go_wp2
          go_roundw
          case rel => exact ⟨j + 1, us2, os2, by omega, by omega, by go_num, hF2, hu2, ho2, hB2⟩
          case measure => simp [intOf]; omega
        · have hk0 : (k == 0) = false := beq_eq_false_iff_ne.2 hk
          go_wp2_with fail
          refine (len_made hF1).mono ?_
          rintro e w2 ⟨rfl, ⟨nd, rfl⟩⟩
          have hF2 := hF1.drewN nd
          have hB2 : Below w.heap.size w ((wr.alloc (.cells #[.int .i64 k, .int .i64 kv, .bool ku] 31)).drewN nd) := YtgbgakbbkacplaaW.PrintWords.pw_below_drewN hB1 nd
          generalize (wr.alloc (.cells #[.int .i64 k, .int .i64 kv, .bool ku] 31)).drewN nd = w3 at *
          clear hF hB hF1 hB1 x0 x1 x2
          obtain ⟨P, hP⟩ : ∃ P : Int, (us.length : Int) = P := ⟨_, rfl⟩
          obtain ⟨Q, hQ⟩ : ∃ Q : Int, (os.length : Int) = Q := ⟨_, rfl⟩
          rw [hP, hQ]
          have hP0 : 0 ≤ P := by omega
          have hP1 : P ≤ 64 := by omega
          have hQ0 : 0 ≤ Q := by omega
          have hQ1 : Q ≤ 64 := by omega
          cases us with
          | cons v us' =>
            go_wp2_with fail
            refine (take_urgent hF2).mono ?_
            rintro e w4 ⟨rfl, hF4, hR⟩
            have hB4 := hR.below _ _ hb hc1 hc2 hB2
            have t3 : decide (0 < P) = true := decide_eq_true (by rw [← hP]; simp)
            have t4 : decide (0 < P + Q) = true := decide_eq_true (by rw [← hP]; simp; omega)
            clear hF2 hB2 hR hP hQ
            go_wp2
            go_roundw
            case rel => exact ⟨j + 1, us', os, by omega, by omega, by go_num, hF4, by simp at hu; omega, ho, hB4⟩
            case measure => simp [intOf]; omega
          | nil =>
            cases os with
            | cons v os' =>
              go_wp2_with fail
              refine (take_other hF2).mono ?_
              rintro e w4 ⟨rfl, hF4, hR⟩
              have hB4 := hR.below _ _ hb hc1 hc2 hB2
              have t3 : decide (0 < P) = false := decide_eq_false (by rw [← hP]; simp)
              have t4 : decide (0 < P + Q) = true := decide_eq_true (by rw [← hP, ← hQ]; simp)
              clear hF2 hB2 hR hP hQ
              go_wp2
              go_roundw
              case rel => exact ⟨j + 1, [], os', by omega, by omega, by go_num, hF4, by simp, by simp at ho; omega, hB4⟩
              case measure => simp [intOf]; omega
            | nil =>
              go_wp2_with fail
              refine (take_none hF2).mono ?_
              rintro e w4 ⟨rfl, rfl⟩
              have t3 : decide (0 < P) = false := decide_eq_false (by rw [← hP]; simp)
              have t4 : decide (0 < P + Q) = false := decide_eq_false (by rw [← hP, ← hQ]; simp)
              clear hP hQ
              go_wp2
              go_roundw
              case rel => exact ⟨j + 1, [], [], by omega, by omega, by go_num, hF2, by simp, by simp, hB2⟩
              case measure => simp [intOf]; omega
      · have hge : decide (j < l.length) = false ∨ (decide (j < l.length) = true ∧ decide ((j : Int) < 300) = false) := by
          by_cases t0 : j < l.length
          · exact .inr ⟨decide_eq_true t0, decide_eq_false (by omega)⟩
          · exact .inl (decide_eq_false t0)
        clear hlt
        rcases hge with t1 | ⟨t1, t2⟩
        all_goals
          go_wp2_with fail
          refine (alive_true _).mono ?_
          rintro e w5 ⟨rfl, hB5⟩
          have hB6 := hB.trans (hB5.mono hB.size)
          go_wp2
          go_ret
          exact ⟨rfl, hB6⟩
end Go.Proofs.Ytgbgakbbkacplaa.Feed
