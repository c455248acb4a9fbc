/-
  The law FeedLives, walked over a slice of calls; conditions: those that the theorem states.
-/
import Derived.Test.YtgbgakbbkacplaaBoth
import Derived.Deep.RegionHeld3
namespace Go.Proofs.Ytgbgakbbkacplaa.Feed
set_option linter.unusedSimpArgs false
set_option linter.unusedVariables false
open Go.Conc Go.RowKit Go.Proofs.YtgbgakbbkacplaaW.PrintWords
set_option maxHeartbeats 4000000 in
set_option maxRecDepth 100000 in
theorem lives_walk (room : Int) (A : Option Addr) (l : List (Int × Int × Bool)) (cap : Nat) (w : World) (hlen : l.length ≤ maxLen) (hc : OpsAt w A l) :
    Calls Try.prog 6 #[.int .i64 room, .slice A l.length cap] w fun e w' => e = .returned (.bool true) ∧ Below w.heap.size w w' := by
  unfold maxLen at hlen
  by_cases hbad : room < 1 ∨ 64 < room
  · have HC := Lib.hid hc
    clear hc
    go_enter Try.func6, Try.ntmps6
    go_wp2_with fail
    refine (new_bad room hbad _).mono ?_
    rintro e w1 ⟨rfl, rfl⟩
    go_wp2_with fail
    refine (ref_new_bad room hbad _).mono ?_
    rintro e w1 ⟨rfl, rfl⟩
    clear hbad
    go_wp2_with fail
    go_loopw [9] (fun i wr => ∃ j : Nat, j ≤ l.length ∧ j ≤ 300 ∧ i = .int .i64 j ∧ w = wr) (fun i _ => 0)
    case atStart => exact ⟨0, by omega, by omega, rfl, rfl⟩
    case round =>
      obtain ⟨j, hj1, hj2, rfl, rfl⟩ := hrel
      have hge : decide (j < l.length) = false ∨ (decide (j < l.length) = true ∧ (decide ((j : Int) < 300) = false ∨ decide ((j : Int) < 300) = true)) := by
        by_cases t0 : j < l.length
        · refine .inr ⟨decide_eq_true t0, ?_⟩
          cases decide ((j : Int) < 300) <;> simp
        · exact .inl (decide_eq_false t0)
      rcases hge with t1 | ⟨t1, t2 | t2⟩
      all_goals
        go_wp2_with fail
        refine (alive_true _).mono ?_
        rintro e w1 ⟨rfl, hB⟩
        go_wp2
        go_ret
        exact ⟨rfl, hB⟩
  · obtain ⟨n, rfl⟩ := Int.eq_ofNat_of_zero_le (by omega : 0 ≤ room)
    have hn1 : 1 ≤ n := by omega
    have hn2 : n ≤ 64 := by omega
    clear hbad
    have HC := Lib.hid hc
    clear hc
    go_enter Try.func6, Try.ntmps6
    go_wp2_with fail
    refine (new_good n hn1 hn2 _).mono ?_
    rintro e w1 ⟨b, c1, c2, rfl, hF, hb, hc1, hc2, hB⟩
    go_wp2_with fail
    refine (ref_new_good n w.heap.size hn1 hn2 w w1 hB hB.size).mono ?_
    rintro e w2 ⟨rfl, hR, hB2, o, rfl⟩
    have hF2 := hF.alloc o
    clear hF hB
    generalize w1.heap.size = x at *
    generalize w1.alloc o = w2 at *
    go_wp2_with fail
    go_loopw [9] (fun i wr => ∃ (j : Nat) (us os : List Int) (cl : Bool), j ≤ l.length ∧ j ≤ 300 ∧ i = .int .i64 j ∧ Fd wr b c1 c2 n us os cl ∧ Rf wr w.heap.size x n us os cl ∧ us.length ≤ n ∧ os.length ≤ n ∧ Below w.heap.size w wr) (fun i _ => 300 - (intOf i).toNat)
    case atStart => exact ⟨0, [], [], false, by omega, by omega, rfl, hF2, hR, by simp, by simp, hB2⟩
    case round =>
      clear hF2 hR hB2
      obtain ⟨j, us, os, cl, hj1, hj2, rfl, hF, hR, hu, ho, hB⟩ := hrel
      by_cases hlt : j < l.length ∧ j < 300
      · obtain ⟨hq1, hq2⟩ := hlt
        obtain ⟨xb, xo, rfl, hxb, x0, x1, x2⟩ := HC.out j hq1
        replace x0 := (hB.cell (p := ⟨xb, xo + j * 3, none⟩) hxb).trans x0
        replace x1 := (hB.cell (p := ⟨xb, xo + j * 3 + 1, none⟩) hxb).trans x1
        replace x2 := (hB.cell (p := ⟨xb, xo + j * 3 + 2, none⟩) hxb).trans x2
        have t1 : decide (j < l.length) = true := decide_eq_true hq1
        have t2 : decide ((j : Int) < 300) = true := decide_eq_true (by omega)
        rcases hop : l[j] with ⟨k, kv, ku⟩
        rw [hop] at x0 x1 x2
        have hF1 := hF.alloc (.cells #[.int .i64 k, .int .i64 kv, .bool ku] 31)
        have hR1 := hR.alloc (.cells #[.int .i64 k, .int .i64 kv, .bool ku] 31)
        have hB1 := hB.alloc hB.size (.cells #[.int .i64 k, .int .i64 kv, .bool ku] 31)
        have hN1 := heap_alloc_new wr (.cells #[.int .i64 k, .int .i64 kv, .bool ku] 31)
        clear hop HC
        by_cases hk : k = 0
        · subst hk
          obtain ⟨r, us', os', hP⟩ := putR n us os cl ku kv
          have hL := hP.len hu ho
          have hJ : J w w.heap.size b c1 c2 x n wr.heap.size 0 kv ku us os us' os' cl false false (wr.alloc (.cells #[.int .i64 0, .int .i64 kv, .bool ku] 31)) := ⟨hF1, hR1, hB1, hN1, hb, hc1, hc2⟩
          have HP := Lib.hid hP
          clear hF hR hB hF1 hR1 hB1 hN1 hP
          go_wp2_with fail
          have hJ0 := hJ.drew
          clear hJ x0 x1 x2
          generalize wr.heap.size = gp at *
          generalize (wr.alloc (.cells #[.int .i64 0, .int .i64 kv, .bool ku] 31)) = wa at *
          go_region_held3 (fun w' => w'.cell? ⟨gp, 1, none⟩ = some (.int .i64 kv) ∧ w'.cell? ⟨gp, 2, none⟩ = some (.bool ku)) (exact J.cells (by assumption)) (first | (go_at_call 10; refine (J.feed (by assumption) HP.out).mono ?_; rintro e w3 ⟨rfl, hJ3⟩) | (go_at_call 15; refine (J.ref (by assumption) hn2 hu ho HP.out).mono ?_; rintro e w4 ⟨rfl, hJ4⟩))
          have hF9 : Fd w4 b c1 c2 n us' os' cl := hJ4.fd
          have hR9 : Rf w4 w.heap.size x n us' os' cl := hJ4.rf
          have hB9 := hJ4.be
          have z0 : w4.cell? ⟨gp, 0, none⟩ = some (.int .i64 0) := (blk_cell hJ4.bl 0).trans rfl
          clear hJ0 hJ3 hJ4
          go_wp2_with fail
          refine (len_made hF9).mono ?_
          rintro e w7 ⟨rfl, nd, rfl⟩
          obtain ⟨v1, v2, hV⟩ := hR9.drewN nd
          obtain ⟨A1, k1, rfl, _⟩ := q_slice hV.u
          obtain ⟨A2, k2, rfl, _⟩ := q_slice hV.o
          have hF8 := hF9.drewN nd
          have hR8 := hR9.drewN nd
          have hB8 := pw_below_drewN hB9 nd
          generalize w4.drewN nd = w8 at *
          have y1 : w8.cell? ⟨x, 1, none⟩ = some (.slice A1 us'.length k1) := (blk_cell hV.blk 1).trans rfl
          have y2 : w8.cell? ⟨x, 2, none⟩ = some (.slice A2 os'.length k2) := (blk_cell hV.blk 2).trans rfl
          clear hF9 hR9 hB9 hV
          go_wp2
          go_roundw
          case rel => exact ⟨j + 1, us', os', cl, by omega, by omega, by go_num, hF8, hR8, hL.1, hL.2, hB8⟩
          case measure => simp [intOf]; omega
        · have hk0 : (k == 0) = false := beq_eq_false_iff_ne.2 hk
          by_cases hk1 : k = 1
          · subst hk1
            obtain ⟨a, d, r, us', os', hT⟩ := takeR us os
            have hL := hT.len hu ho
            have HT := Lib.hid hT
            clear hF hR hB hN1 hT
            go_wp2_with fail
            refine (feed_take hF1 HT.out).mono ?_
            rintro e w3 ⟨rfl, hF3, hf⟩
            have hR3 := hR1.feed hF1 hf
            have hB3 := hf.below _ _ hb hc1 hc2 hB1
            clear hF1 hR1 hB1 hf
            go_wp2_with fail
            refine (ref_take hR3 hB3 hn2 hu ho HT.out).mono ?_
            rintro e w9 ⟨rfl, hR9, hB9, hg⟩
            have hF9 := hg.fd hR3 hF3
            clear hF3 hR3 hB3 hg x0 x1 x2
            go_wp2_with fail
            refine (len_made hF9).mono ?_
            rintro e w7 ⟨rfl, nd, rfl⟩
            obtain ⟨v1, v2, hV⟩ := hR9.drewN nd
            obtain ⟨A1, k1, rfl, _⟩ := q_slice hV.u
            obtain ⟨A2, k2, rfl, _⟩ := q_slice hV.o
            have hF8 := hF9.drewN nd
            have hR8 := hR9.drewN nd
            have hB8 := pw_below_drewN hB9 nd
            generalize w9.drewN nd = w8 at *
            have y1 : w8.cell? ⟨x, 1, none⟩ = some (.slice A1 us'.length k1) := (blk_cell hV.blk 1).trans rfl
            have y2 : w8.cell? ⟨x, 2, none⟩ = some (.slice A2 os'.length k2) := (blk_cell hV.blk 2).trans rfl
            clear hF9 hR9 hB9 hV
            go_wp2
            go_roundw
            case rel => exact ⟨j + 1, us', os', cl, by omega, by omega, by go_num, hF8, hR8, hL.1, hL.2, hB8⟩
            case measure => simp [intOf]; omega
          · have hk2 : (k == 1) = false := beq_eq_false_iff_ne.2 hk1
            by_cases hk3 : k = 2
            · subst hk3
              obtain ⟨r, hC⟩ := closeR cl
              have hL : us.length ≤ n ∧ os.length ≤ n := ⟨hu, ho⟩
              have HT := Lib.hid hC
              clear hF hR hB hN1 hC
              go_wp2_with fail
              refine (feed_close hF1 HT.out).mono ?_
              rintro e w3 ⟨rfl, hF3, hf⟩
              have hR3 := hR1.feed hF1 hf
              have hB3 := hf.below _ _ hb hc1 hc2 hB1
              clear hF1 hR1 hB1 hf
              go_wp2_with fail
              refine (ref_close hR3 hB3 HT.out).mono ?_
              rintro e w9 ⟨rfl, hR9, hB9, hg⟩
              have hF9 := hg.fd hR3 hF3
              clear hF3 hR3 hB3 hg x0 x1 x2
              go_wp2_with fail
              refine (len_made hF9).mono ?_
              rintro e w7 ⟨rfl, nd, rfl⟩
              obtain ⟨v1, v2, hV⟩ := hR9.drewN nd
              obtain ⟨A1, k1, rfl, _⟩ := q_slice hV.u
              obtain ⟨A2, k2, rfl, _⟩ := q_slice hV.o
              have hF8 := hF9.drewN nd
              have hR8 := hR9.drewN nd
              have hB8 := pw_below_drewN hB9 nd
              generalize w9.drewN nd = w8 at *
              have y1 : w8.cell? ⟨x, 1, none⟩ = some (.slice A1 us.length k1) := (blk_cell hV.blk 1).trans rfl
              have y2 : w8.cell? ⟨x, 2, none⟩ = some (.slice A2 os.length k2) := (blk_cell hV.blk 2).trans rfl
              clear hF9 hR9 hB9 hV
              go_wp2
              go_roundw
              case rel => exact ⟨j + 1, us, os, true, by omega, by omega, by go_num, hF8, hR8, hL.1, hL.2, hB8⟩
              case measure => simp [intOf]; omega
            · have hk4 : (k == 2) = false := beq_eq_false_iff_ne.2 hk3
              have hL : us.length ≤ n ∧ os.length ≤ n := ⟨hu, ho⟩
              have hF9 := hF1
              have hR9 := hR1
              have hB9 := hB1
              clear hF hR hB hF1 hR1 hB1 hN1
              go_wp2_with fail
              generalize wr.alloc (.cells #[.int .i64 k, .int .i64 kv, .bool ku] 31) = w9 at *
              go_wp2_with fail
              refine (len_made hF9).mono ?_
              rintro e w7 ⟨rfl, nd, rfl⟩
              obtain ⟨v1, v2, hV⟩ := hR9.drewN nd
              obtain ⟨A1, k1, rfl, _⟩ := q_slice hV.u
              obtain ⟨A2, k2, rfl, _⟩ := q_slice hV.o
              have hF8 := hF9.drewN nd
              have hR8 := hR9.drewN nd
              have hB8 := pw_below_drewN hB9 nd
              generalize w9.drewN nd = w8 at *
              have y1 : w8.cell? ⟨x, 1, none⟩ = some (.slice A1 us.length k1) := (blk_cell hV.blk 1).trans rfl
              have y2 : w8.cell? ⟨x, 2, none⟩ = some (.slice A2 os.length k2) := (blk_cell hV.blk 2).trans rfl
              clear hF9 hR9 hB9 hV
              go_wp2
              go_roundw
              case rel => exact ⟨j + 1, us, os, cl, by omega, by omega, by go_num, hF8, hR8, hL.1, hL.2, hB8⟩
              case measure => simp [intOf]; omega
      · have hge : decide (j < l.length) = false ∨ (decide (j < l.length) = true ∧ decide ((j : Int) < 300) = false) := by
          by_cases t0 : j < l.length
          · exact .inr ⟨decide_eq_true t0, decide_eq_false (by omega)⟩
          · exact .inl (decide_eq_false t0)
        clear hlt HC
        rcases hge with t1 | ⟨t1, t2⟩
        all_goals
          go_wp2_with fail
          refine (alive_true _).mono ?_
          rintro e w5 ⟨rfl, hB5⟩
          have hB6 := hB.trans (hB5.mono hB.size)
          go_wp2
          go_ret
          exact ⟨rfl, hB6⟩
end Go.Proofs.Ytgbgakbbkacplaa.Feed
