/-
  Of a feed in which one row alone is used: what the calls tell; conditions: those that each theorem states.
-/
import Derived.Test.YtgbgakbbkacplaaAlive
import Derived.Lib.Hide
import Derived.Deep.LoopGhost
namespace Go.Proofs.Ytgbgakbbkacplaa.Feed
set_option linter.unusedSimpArgs false
set_option linter.unusedVariables false
open Go.Conc Go.RowKit
/-- A feed of which only the row u is used. -/
def Fu (u : Bool) (w : World) (b c1 c2 room : Nat) (l : List Int) (cl : Bool) : Prop := if u then Fd w b c1 c2 room l [] cl else Fd w b c1 c2 room [] l cl
section
variable {w : World} {b c1 c2 room : Nat} {l : List Int} {cl u : Bool}
theorem Fu.start (u : Bool) (h : Fd w b c1 c2 room [] [] cl) : Fu u w b c1 c2 room [] cl := by cases u <;> exact h
theorem put_row {u : Bool} (v : Int) (h : Fu u w b c1 c2 room l false) (hroom : l.length < room) : Calls Try.prog 10 #[.pointer (some ⟨b, 0, none⟩), .int .i64 v, .bool u] w fun e w' => e = .returned (.int .i64 0) ∧ Fu u w' b c1 c2 room (l ++ [v]) false ∧ Fr b c1 c2 w w' := by
  cases u
  · exact put_other v (show Fd w b c1 c2 room [] l false from h) hroom
  · exact put_urgent v (show Fd w b c1 c2 room l [] false from h) hroom
theorem put_row_full {u : Bool} (v : Int) (h : Fu u w b c1 c2 room l false) (hroom : room ≤ l.length) : Calls Try.prog 10 #[.pointer (some ⟨b, 0, none⟩), .int .i64 v, .bool u] w fun e w' => e = .returned (.int .i64 5) ∧ w = w' := by
  cases u
  · exact put_other_full v (show Fd w b c1 c2 room [] l false from h) hroom
  · exact put_urgent_full v (show Fd w b c1 c2 room l [] false from h) hroom
theorem put_row_closed {u : Bool} (v : Int) (u' : Bool) (h : Fu u w b c1 c2 room l true) : Calls Try.prog 10 #[.pointer (some ⟨b, 0, none⟩), .int .i64 v, .bool u'] w fun e w' => e = .returned (.int .i64 113) ∧ w = w' := by
  cases u
  · exact put_closed v (show Fd w b c1 c2 room [] l true from h) u'
  · exact put_closed v (show Fd w b c1 c2 room l [] true from h) u'
theorem close_row {u : Bool} (h : Fu u w b c1 c2 room l false) : Calls Try.prog 13 #[.pointer (some ⟨b, 0, none⟩)] w fun e w' => e = .returned (.int .i64 0) ∧ Fu u w' b c1 c2 room l true ∧ Fr b c1 c2 w w' := by
  cases u
  · exact close_open (show Fd w b c1 c2 room [] l false from h)
  · exact close_open (show Fd w b c1 c2 room l [] false from h)
theorem close_row_closed {u : Bool} (h : Fu u w b c1 c2 room l true) : Calls Try.prog 13 #[.pointer (some ⟨b, 0, none⟩)] w fun e w' => e = .returned (.int .i64 113) ∧ w = w' := by
  cases u
  · exact close_closed (show Fd w b c1 c2 room [] l true from h)
  · exact close_closed (show Fd w b c1 c2 room l [] true from h)
theorem take_row {u : Bool} {v : Int} (h : Fu u w b c1 c2 room (v :: l) cl) : Calls Try.prog 11 #[.pointer (some ⟨b, 0, none⟩)] w fun e w' => e = .returned (.tuple #[.int .i64 v, .bool u, .int .i64 0]) ∧ Fu u w' b c1 c2 room l cl ∧ Fr b c1 c2 w w' := by
  cases u
  · exact take_other (show Fd w b c1 c2 room [] (v :: l) cl from h)
  · exact take_urgent (show Fd w b c1 c2 room (v :: l) [] cl from h)
theorem take_row_none {u : Bool} (h : Fu u w b c1 c2 room [] cl) : Calls Try.prog 11 #[.pointer (some ⟨b, 0, none⟩)] w fun e w' => e = .returned (.tuple #[.int .i64 0, .bool false, .int .i64 4]) ∧ w = w' := by
  cases u
  · exact take_none (show Fd w b c1 c2 room [] [] cl from h)
  · exact take_none (show Fd w b c1 c2 room [] [] cl from h)
end
theorem take_at (l : List Int) (j : Nat) (h : j < l.length) : l.take (j + 1) = l.take j ++ [l[j]] := List.take_succ_eq_append_getElem h
theorem drop_take_at (l : List Int) (m j : Nat) (h : j < m) (hm : m ≤ l.length) : (l.take m).drop j = l[j] :: (l.take m).drop (j + 1) := by
  rw [List.drop_eq_getElem_cons (by rw [List.length_take]; omega), List.getElem_take]

set_option maxHeartbeats 4000000 in
set_option maxRecDepth 100000 in
theorem closes_walk (room : Int) (A : Option Addr) (l : List Int) (cap : Nat) (u : Bool) (v : Int) (w : World) (hlen : l.length ≤ 140737488351232)
    (hc : ∀ i, i < l.length → ∃ x, A = some x ∧ w.cell? (x.add i) = some (.int .i64 (l.getD i 0))) :
    Calls Try.prog 5 #[.int .i64 room, .slice A l.length cap, .bool u, .int .i64 v] w fun e w' => e = .returned (.bool true) ∧ Below w.heap.size w w' := by
  by_cases hbad : room < 1 ∨ 64 < room
  · go_enter Try.func5, Try.ntmps5
    go_wp2_with fail
    refine (new_bad room hbad _).mono ?_
    rintro e w1 ⟨rfl, rfl⟩
    go_wp2_with fail
    refine (alive_true _).mono ?_
    rintro e w1 ⟨rfl, hB⟩
    go_wp2
    go_ret
    exact ⟨rfl, hB⟩
  · obtain ⟨n, rfl⟩ := Int.eq_ofNat_of_zero_le (by omega : 0 ≤ room)
    have hn1 : 1 ≤ n := by omega
    have hn2 : n ≤ 64 := by omega
    clear hbad
    have HC := Lib.hid hc
    clear hc
    go_enter Try.func5, Try.ntmps5
    go_wp2_with fail
    refine (new_good n hn1 hn2 _).mono ?_
    rintro e w1 ⟨b, c1, c2, rfl, hF, hb, hc1, hc2, hB⟩
    have hU := Fu.start u hF
    clear hF
    go_wp2_with fail
    go_loopw [11, 12] (fun cnt i wr => ∃ j : Nat, j ≤ l.length ∧ j ≤ 100 ∧ i = .int .i64 j ∧ cnt = .int .i64 (min j n : Nat) ∧ Fu u wr b c1 c2 n (l.take (min j n)) false ∧ Below w.heap.size w wr) (fun _ i _ => 100 - (intOf i).toNat)
    case atStart => exact ⟨0, by omega, by omega, rfl, by simp, by simpa using hU, hB⟩
    case round =>
      clear hU hB
      obtain ⟨j, hj1, hj2, rfl, rfl, hU, hB⟩ := hrel
      by_cases hlt : j < l.length ∧ j < 100
      · obtain ⟨hl1, hl2⟩ := hlt
        obtain ⟨x, rfl, hcx⟩ := HC.out j hl1
        have hcell := (hB.cell (World.block_lt_of_cell? w _ hcx)).trans hcx
        clear hcx
        have t1 : decide (j < l.length) = true := decide_eq_true hl1
        have t2 : decide ((j : Int) < 100) = true := decide_eq_true (by omega)
        by_cases hr : j < n
        · go_wp2_with fail
          refine (put_row l[j] hU (by rw [List.length_take]; omega)).mono ?_
          rintro e w2 ⟨rfl, hU2, hR⟩
          go_wp2
          go_roundw
          case rel => exact ⟨j + 1, by omega, by omega, by go_num, by rw [show min (j + 1) n = j + 1 by omega, show min j n = j by omega]; go_num, by rw [show min (j + 1) n = j + 1 by omega, take_at l j hl1]; rw [show min j n = j by omega] at hU2; exact hU2, hR.below _ _ hb hc1 hc2 hB⟩
          case measure => simp [intOf]; omega
        · go_wp2_with fail
          refine (put_row_full l[j] hU (by rw [List.length_take]; omega)).mono ?_
          rintro e w2 ⟨rfl, rfl⟩
          go_wp2
          go_roundw
          case rel => exact ⟨j + 1, by omega, by omega, by go_num, by rw [show min (j + 1) n = min j n by omega], by rw [show min (j + 1) n = min j n by omega]; exact hU, hB⟩
          case measure => simp [intOf]; omega
      · obtain ⟨m, hm⟩ : ∃ m, m = min j n := ⟨_, rfl⟩
        have hml : m ≤ l.length := by omega
        rw [← hm] at hU ⊢
        clear hm
        have hge : decide (j < l.length) = false ∨ (decide (j < l.length) = true ∧ decide ((j : Int) < 100) = false) := by
          by_cases t0 : j < l.length
          · exact .inr ⟨decide_eq_true t0, decide_eq_false (by omega)⟩
          · exact .inl (decide_eq_false t0)
        clear hlt
        rcases hge with t1 | ⟨t1, t2⟩
        all_goals
          go_wp2_with fail
          refine (close_row hU).mono ?_
          rintro e w2 ⟨rfl, hU2, hR⟩
          have hB2 := hR.below _ _ hb hc1 hc2 hB
          clear hU hB hR
          go_wp2_with fail
          refine (put_row_closed v u hU2).mono ?_
          rintro e w3 ⟨rfl, rfl⟩
          go_wp2_with fail
          refine (close_row_closed hU2).mono ?_
          rintro e w3 ⟨rfl, rfl⟩
          go_wp2_with fail
          obtain ⟨wo, rfl⟩ : ∃ wo : World, wo = wr := ⟨_, rfl⟩
          go_loopw [13] (fun i wr2 => ∃ q : Nat, q ≤ m ∧ i = .int .i64 q ∧ Fu u wr2 b c1 c2 n ((l.take m).drop q) true ∧ Below w.heap.size w wr2) (fun i _ => m - (intOf i).toNat)
          case atStart => exact ⟨0, by omega, rfl, by rw [List.drop_zero]; exact hU2, hB2⟩
          case round =>
            clear hU2 hB2
            obtain ⟨q, hq1, rfl, hU3, hB3⟩ := hrel
            by_cases hlt2 : q < m
            · have hl3 : q < l.length := by omega
              obtain ⟨x, rfl, hcx⟩ := HC.out q hl3
              have HX := Lib.hid hcx
              clear hcx
              rw [drop_take_at l m q hlt2 hml] at hU3
              go_wp2_with fail
              refine (take_row hU3).mono ?_
              rintro e w4 ⟨rfl, hU4, hR4⟩
              have hB4 := hR4.below _ _ hb hc1 hc2 hB3
              have hcell4 := (hB4.cell (World.block_lt_of_cell? w _ HX.out)).trans HX.out
              clear hU3 hB3 hR4
              go_wp2
              go_roundw
              case rel => exact ⟨q + 1, by omega, by go_num, hU4, hB4⟩
              case measure => simp [intOf]; omega
            · have hq : (l.take m).drop q = [] := List.drop_eq_nil_of_le (by rw [List.length_take]; omega)
              rw [hq] at hU3
              clear hq
              go_wp2_with fail
              refine (take_row_none hU3).mono ?_
              rintro e w4 ⟨rfl, rfl⟩
              go_wp2_with fail
              refine (alive_true _).mono ?_
              rintro e w5 ⟨rfl, hB5⟩
              have hB6 := hB3.trans (hB5.mono hB3.size)
              go_wp2
              go_ret
              exact ⟨rfl, hB6⟩
end Go.Proofs.Ytgbgakbbkacplaa.Feed
