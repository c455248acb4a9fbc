/-
  Contracts of the reference's feed: New, Put, Take, Close; and the feed's own in the same words; conditions: those that each theorem states.
-/
import Derived.Test.YtgbgakbbkacplaaRef
namespace Go.Proofs.Ytgbgakbbkacplaa.Feed
set_option linter.unusedSimpArgs false
set_option linter.unusedVariables false
open Go.Conc Go.RowKit Go.Proofs.YtgbgakbbkacplaaW.PrintWords
theorem q_form {w : World} {base e size n : Nat} {v : Value} {xs : List Value} (h : QRow w base e size v n xs) : ∃ A m c, v = .slice A m c := by
  obtain ⟨A, c, h, _⟩ := q_slice h
  exact ⟨A, n, c, h⟩
theorem ref_new_bad (room : Int) (h : room < 1 ∨ 64 < room) (w : World) : Calls Try.prog 14 #[.int .i64 room] w fun e w' => e = .returned (.tuple #[.pointer none, .int .i64 1]) ∧ w = w' := by
  rcases h with h | h
  · go_enter Try.func14, Try.ntmps14
    go_wp2
    go_ret2
    exact ⟨rfl, rfl⟩
  · have h1 : ¬ room < 1 := by omega
    go_enter Try.func14, Try.ntmps14
    go_wp2
    go_ret2
    exact ⟨rfl, rfl⟩
theorem ref_new_good (room base : Nat) (h1 : 1 ≤ room) (h2 : room ≤ 64) (w0 w : World) (hB : Below base w0 w) (hbase : base ≤ w.heap.size) : Calls Try.prog 14 #[.int .i64 room] w fun e w' => e = .returned (.tuple #[.pointer (some ⟨w.heap.size, 0, none⟩), .int .i64 0]) ∧ Rf w' base w.heap.size room [] [] false ∧ Below base w0 w' ∧ ∃ o, w' = w.alloc o := by
  have g1 : ¬ (room : Int) < 1 := by omega
  have g2 : ¬ 64 < (room : Int) := by omega
  go_enter Try.func14, Try.ntmps14
  go_wp2
  go_ret2
  have n0 : ∀ W : World, QRow W base 3 1 (.slice none 0 0) ([] : List Int).length (nums .i64 []) := fun W => q_of_own ⟨rfl, .inl ⟨rfl, rfl⟩⟩
  exact ⟨rfl, ⟨_, _, heap_alloc_new _ _, hbase, n0 _, n0 _, fun k h => by simp [Value.ownBlock] at h⟩, hB.alloc hbase _, _, rfl⟩
theorem ref_put_urgent {w w0 : World} {base x n : Nat} {us os : List Int} (v : Int) (hR : Rf w base x n us os false) (hB : Below base w0 w) (hr : us.length < n) (hn : n ≤ 64) : Calls Try.prog 15 #[.pointer (some ⟨x, 0, none⟩), .int .i64 v, .bool true] w fun e w' => e = .returned (.int .i64 0) ∧ Rf w' base x n (us ++ [v]) os false ∧ Below base w0 w' ∧ Gr x w w' := by
  obtain ⟨v1, v2, h⟩ := hR
  obtain ⟨A, c, rfl, _⟩ := q_slice h.u
  have x0 : w.cell? ⟨x, 0, none⟩ = some (.int .i64 n) := (blk_cell h.blk 0).trans rfl
  have x1 : w.cell? ⟨x, 1, none⟩ = some (.slice A us.length c) := (blk_cell h.blk 1).trans rfl
  have x3 : w.cell? ⟨x, 3, none⟩ = some (.bool false) := (blk_cell h.blk 3).trans rfl
  have hge : decide ((n : Int) ≤ (us.length : Int)) = false := decide_eq_false (by omega)
  have hge' : ¬ ((n : Int) ≤ (us.length : Int)) := by omega
  have hge2 : ¬ (n ≤ us.length) := by omega
  have hbase := lt_base h
  go_enter Try.func15, Try.ntmps15
  go_wp2_with fail
  go_quiet (fail)
  have HB := pw_below_drewN hB nq
  have HR : RfV (w.drewN nq) base x n (.slice A us.length c) v2 us os false := h.move fun _ _ _ _ _ => rfl
  have hG0 : Gr x w (w.drewN nq) := fun _ _ h _ _ => h
  have HS : base ≤ (w.drewN nq).heap.size := hbase
  clear h hB hbase x0 x1 x3
  generalize w.drewN nq = W at *
  have x1 : W.cell? ⟨x, 1, none⟩ = some (.slice A us.length c) := (blk_cell HR.blk 1).trans rfl
  have x2 : (W.alloc (.cells #[.int .i64 v] 3)).cell? ⟨x, 1, none⟩ = some (.slice A us.length c) := (blk_cell ((Below.heap_alloc _ _ _ (lt_of_heap HR.blk)).trans HR.blk) 1).trans rfl
  go_wp2_with (at_builtin; refine ref_append (w0 := w0) (W := W) base rfl (.tmp 26) (.tmp 28) rfl (.slice A us.length c) us v rfl rfl HR.u HB HS (by omega) ?_; intro u1 w1 hown hB3 hg hat; obtain ⟨A1, m1, c1, rfl⟩ := q_form hown; have i1 : w1.heap[x]? = some (.cells #[.int .i64 n, .slice A us.length c, v2, .bool false] 44 (0, 0)) := (hg.block x (lt_of_heap HR.blk) (HR.row_ne HR.u)).trans HR.blk; have i2 := blk_frozen i1 1; have i3 : w1.cell? ⟨x, 1, none⟩ = some (.slice A us.length c) := (blk_cell i1 1).trans rfl)
  go_ret
  have hp := HR.put1 hown hg hat
  exact ⟨rfl, ⟨_, _, hp.1⟩, hB3.setCell HR.xb _, fun k o h1 h2 h3 => hp.2 k o (hG0 k o h1 h2 h3) h2 h3⟩
theorem ref_put_other {w w0 : World} {base x n : Nat} {us os : List Int} (v : Int) (hR : Rf w base x n us os false) (hB : Below base w0 w) (hr : os.length < n) (hn : n ≤ 64) : Calls Try.prog 15 #[.pointer (some ⟨x, 0, none⟩), .int .i64 v, .bool false] w fun e w' => e = .returned (.int .i64 0) ∧ Rf w' base x n us (os ++ [v]) false ∧ Below base w0 w' ∧ Gr x w w' := by
  obtain ⟨v1, v2, h⟩ := hR
  obtain ⟨A, c, rfl, _⟩ := q_slice h.o
  have x0 : w.cell? ⟨x, 0, none⟩ = some (.int .i64 n) := (blk_cell h.blk 0).trans rfl
  have x1 : w.cell? ⟨x, 2, none⟩ = some (.slice A os.length c) := (blk_cell h.blk 2).trans rfl
  have x3 : w.cell? ⟨x, 3, none⟩ = some (.bool false) := (blk_cell h.blk 3).trans rfl
  have hge : decide ((n : Int) ≤ (os.length : Int)) = false := decide_eq_false (by omega)
  have hge' : ¬ ((n : Int) ≤ (os.length : Int)) := by omega
  have hge2 : ¬ (n ≤ os.length) := by omega
  have hbase := lt_base h
  go_enter Try.func15, Try.ntmps15
  go_wp2_with fail
  go_quiet (fail)
  have HB := pw_below_drewN hB nq
  have HR : RfV (w.drewN nq) base x n v1 (.slice A os.length c) us os false := h.move fun _ _ _ _ _ => rfl
  have hG0 : Gr x w (w.drewN nq) := fun _ _ h _ _ => h
  have HS : base ≤ (w.drewN nq).heap.size := hbase
  clear h hB hbase x0 x1 x3
  generalize w.drewN nq = W at *
  have x1 : W.cell? ⟨x, 2, none⟩ = some (.slice A os.length c) := (blk_cell HR.blk 2).trans rfl
  have x2 : (W.alloc (.cells #[.int .i64 v] 3)).cell? ⟨x, 2, none⟩ = some (.slice A os.length c) := (blk_cell ((Below.heap_alloc _ _ _ (lt_of_heap HR.blk)).trans HR.blk) 2).trans rfl
  go_wp2_with (at_builtin; refine ref_append (w0 := w0) (W := W) base rfl (.tmp 46) (.tmp 48) rfl (.slice A os.length c) os v rfl rfl HR.o HB HS (by omega) ?_; intro u1 w1 hown hB3 hg hat; obtain ⟨A1, m1, c1, rfl⟩ := q_form hown; have i1 : w1.heap[x]? = some (.cells #[.int .i64 n, v1, .slice A os.length c, .bool false] 44 (0, 0)) := (hg.block x (lt_of_heap HR.blk) (HR.row_ne HR.o)).trans HR.blk; have i2 := blk_frozen i1 2; have i3 : w1.cell? ⟨x, 2, none⟩ = some (.slice A os.length c) := (blk_cell i1 2).trans rfl)
  go_ret
  have hp := HR.put2 hown hg hat
  exact ⟨rfl, ⟨_, _, hp.1⟩, hB3.setCell HR.xb _, fun k o h1 h2 h3 => hp.2 k o (hG0 k o h1 h2 h3) h2 h3⟩
theorem ref_put_urgent_full {w w0 : World} {base x n : Nat} {us os : List Int} (v : Int) (hR : Rf w base x n us os false) (hB : Below base w0 w) (hr : n ≤ us.length) (hl : us.length ≤ 64) : Calls Try.prog 15 #[.pointer (some ⟨x, 0, none⟩), .int .i64 v, .bool true] w fun e w' => e = .returned (.int .i64 5) ∧ Rf w' base x n us os false ∧ Below base w0 w' ∧ Gr x w w' := by
  obtain ⟨v1, v2, h⟩ := hR
  obtain ⟨A, c, rfl, _⟩ := q_slice h.u
  have x0 : w.cell? ⟨x, 0, none⟩ = some (.int .i64 n) := (blk_cell h.blk 0).trans rfl
  have x1 : w.cell? ⟨x, 1, none⟩ = some (.slice A us.length c) := (blk_cell h.blk 1).trans rfl
  have x3 : w.cell? ⟨x, 3, none⟩ = some (.bool false) := (blk_cell h.blk 3).trans rfl
  have hge : decide ((n : Int) ≤ (us.length : Int)) = true := decide_eq_true (by omega)
  have hge' : ((n : Int) ≤ (us.length : Int)) := by omega
  go_enter Try.func15, Try.ntmps15
  go_wp2_with fail
  go_quiet (fail)
  go_wp2
  go_ret
  exact ⟨rfl, ⟨_, _, h.move fun _ _ _ _ _ => rfl⟩, pw_below_drewN hB _, fun _ _ h _ _ => h⟩
theorem ref_put_other_full {w w0 : World} {base x n : Nat} {us os : List Int} (v : Int) (hR : Rf w base x n us os false) (hB : Below base w0 w) (hr : n ≤ os.length) (hl : os.length ≤ 64) : Calls Try.prog 15 #[.pointer (some ⟨x, 0, none⟩), .int .i64 v, .bool false] w fun e w' => e = .returned (.int .i64 5) ∧ Rf w' base x n us os false ∧ Below base w0 w' ∧ Gr x w w' := by
  obtain ⟨v1, v2, h⟩ := hR
  obtain ⟨A, c, rfl, _⟩ := q_slice h.o
  have x0 : w.cell? ⟨x, 0, none⟩ = some (.int .i64 n) := (blk_cell h.blk 0).trans rfl
  have x1 : w.cell? ⟨x, 2, none⟩ = some (.slice A os.length c) := (blk_cell h.blk 2).trans rfl
  have x3 : w.cell? ⟨x, 3, none⟩ = some (.bool false) := (blk_cell h.blk 3).trans rfl
  have hge : decide ((n : Int) ≤ (os.length : Int)) = true := decide_eq_true (by omega)
  have hge' : ((n : Int) ≤ (os.length : Int)) := by omega
  go_enter Try.func15, Try.ntmps15
  go_wp2_with fail
  go_quiet (fail)
  go_wp2
  go_ret
  exact ⟨rfl, ⟨_, _, h.move fun _ _ _ _ _ => rfl⟩, pw_below_drewN hB _, fun _ _ h _ _ => h⟩
theorem ref_put_closed {w w0 : World} {base x n : Nat} {us os : List Int} (v : Int) (u : Bool) (hR : Rf w base x n us os true) (hB : Below base w0 w) : Calls Try.prog 15 #[.pointer (some ⟨x, 0, none⟩), .int .i64 v, .bool u] w fun e w' => e = .returned (.int .i64 113) ∧ Rf w' base x n us os true ∧ Below base w0 w' ∧ Gr x w w' := by
  obtain ⟨v1, v2, h⟩ := hR
  have x3 : w.cell? ⟨x, 3, none⟩ = some (.bool true) := (blk_cell h.blk 3).trans rfl
  go_enter Try.func15, Try.ntmps15
  go_wp2
  go_ret
  exact ⟨rfl, ⟨_, _, h⟩, hB, fun _ _ h _ _ => h⟩
theorem ref_close_open {w w0 : World} {base x n : Nat} {us os : List Int} (hR : Rf w base x n us os false) (hB : Below base w0 w) : Calls Try.prog 17 #[.pointer (some ⟨x, 0, none⟩)] w fun e w' => e = .returned (.int .i64 0) ∧ Rf w' base x n us os true ∧ Below base w0 w' ∧ Gr x w w' := by
  obtain ⟨v1, v2, h⟩ := hR
  have x3 : w.cell? ⟨x, 3, none⟩ = some (.bool false) := (blk_cell h.blk 3).trans rfl
  have x4 := blk_frozen h.blk 3
  go_enter Try.func17, Try.ntmps17
  go_wp2
  go_ret
  exact ⟨rfl, ⟨_, _, h.close.1⟩, hB.setCell h.xb _, h.close.2⟩
theorem ref_close_closed {w w0 : World} {base x n : Nat} {us os : List Int} (hR : Rf w base x n us os true) (hB : Below base w0 w) : Calls Try.prog 17 #[.pointer (some ⟨x, 0, none⟩)] w fun e w' => e = .returned (.int .i64 113) ∧ Rf w' base x n us os true ∧ Below base w0 w' ∧ Gr x w w' := by
  obtain ⟨v1, v2, h⟩ := hR
  have x3 : w.cell? ⟨x, 3, none⟩ = some (.bool true) := (blk_cell h.blk 3).trans rfl
  go_enter Try.func17, Try.ntmps17
  go_wp2
  go_ret
  exact ⟨rfl, ⟨_, _, h⟩, hB, fun _ _ h _ _ => h⟩
theorem cut1 {w : World} {base : Nat} {A : Option Addr} {c : Nat} {v : Int} {l : List Int} (h : QRow w base 3 1 (.slice A (v :: l).length c) (v :: l).length (nums .i64 (v :: l))) :
    ∃ A1 c1, (∀ W : World, (Instr.slice 28 (.slice A (v :: l).length c) (some (.int .i64 1)) none none).run Try.prog W = .ok (.slice A1 l.length c1) W) ∧ QRow w base 3 1 (.slice A1 l.length c1) l.length (nums .i64 l) ∧ (Value.slice A1 l.length c1).ownBlock = (Value.slice A (v :: l).length c).ownBlock := by
  obtain ⟨i0, hi, hzz⟩ := Option.map_eq_some_iff.1 info3'
  simp only [Prod.mk.injEq] at hzz
  obtain ⟨hz0, hz1, hz2⟩ := hzz
  have hq := q_drop (k := 1) h (by simp)
  have hc := cut_from (P := Try.prog) 28 3 .i64 Try.underlying28 hi 1 hz1 A (v :: l).length c 1 (by omega) (by simp; omega)
  have e1 : (1 : Int).toNat = 1 := rfl
  rw [e1] at hc
  have e2 : (v :: l).length - 1 = l.length := by simp
  rw [e2] at hc hq
  refine ⟨_, _, hc, by simpa [nums] using hq, ?_⟩
  cases A with
  | none => by_cases hcc : c = 1 <;> simp [hcc, Value.ownBlock]
  | some a => by_cases hcc : c = 1 <;> simp [hcc, Value.ownBlock, Addr.add]
theorem first1 {w : World} {base : Nat} {A : Option Addr} {c : Nat} {v : Int} {l : List Int} (h : QRow w base 3 1 (.slice A (v :: l).length c) (v :: l).length (nums .i64 (v :: l))) :
    ∃ g o, A = some ⟨g, o, none⟩ ∧ w.cell? ⟨g, o, none⟩ = some (.int .i64 v) := by
  rcases h.2 with ⟨h0, _⟩ | ⟨g, off, cap, cur, he, hg, hh, hnc, hm, hcs, ht⟩
  · simp at h0
  · obtain ⟨ad, hA, hcell⟩ := q_cells h (by simp)
    injection he with ha _ _
    subst ha
    refine ⟨g, off * 1, rfl, ?_⟩
    have := hcell 0 (.int .i64 v) (by simp [nums])
    simp only [Option.some.injEq] at hA
    subst hA
    rw [add_at] at this
    simpa using this
theorem ref_take_urgent {w w0 : World} {base x n : Nat} {us os : List Int} {cl : Bool} {v : Int} (hR : Rf w base x n (v :: us) os cl) (hB : Below base w0 w) (hl : us.length ≤ 64) : Calls Try.prog 16 #[.pointer (some ⟨x, 0, none⟩)] w fun e w' => e = .returned (.tuple #[.int .i64 v, .bool true, .int .i64 0]) ∧ Rf w' base x n us os cl ∧ Below base w0 w' ∧ Gr x w w' := by
  obtain ⟨v1, v2, h⟩ := hR
  obtain ⟨A, c, rfl, _⟩ := q_slice h.u
  have hx := first1 h.u
  obtain ⟨g, o, rfl, z1⟩ := hx
  obtain ⟨A1, c1, hcut, hq, hown⟩ := cut1 h.u
  have x1 : w.cell? ⟨x, 1, none⟩ = some (.slice (some ⟨g, o, none⟩) (v :: us).length c) := (blk_cell h.blk 1).trans rfl
  have x4 := blk_frozen h.blk 1
  have hp := h.put1 hq (World.grownBy.refl _ _) (.inl hown)
  have hlen : (v :: us).length = us.length + 1 := rfl
  generalize (v :: us).length = m at *
  subst hlen
  have hpos : decide ((0 : Int) < ((us.length + 1 : Nat) : Int)) = true := decide_eq_true (by omega)
  have hpos2 : ((0 : Int) < ((us.length + 1 : Nat) : Int)) := by omega
  go_enter Try.func16, Try.ntmps16
  go_wp2
  go_ret3
  exact ⟨rfl, ⟨_, _, hp.1⟩, hB.setCell h.xb _, hp.2⟩
theorem ref_take_other {w w0 : World} {base x n : Nat} {us os : List Int} {cl : Bool} {v : Int} (hR : Rf w base x n [] (v :: os) cl) (hB : Below base w0 w) (hl : os.length ≤ 64) : Calls Try.prog 16 #[.pointer (some ⟨x, 0, none⟩)] w fun e w' => e = .returned (.tuple #[.int .i64 v, .bool false, .int .i64 0]) ∧ Rf w' base x n [] os cl ∧ Below base w0 w' ∧ Gr x w w' := by
  obtain ⟨v1, v2, h⟩ := hR
  obtain ⟨A, c, rfl, _⟩ := q_slice h.o
  obtain ⟨B, d, rfl, _⟩ := q_slice h.u
  have hx := first1 h.o
  obtain ⟨g, o, rfl, z1⟩ := hx
  obtain ⟨A1, c1, hcut, hq, hown⟩ := cut1 h.o
  have x1 : w.cell? ⟨x, 2, none⟩ = some (.slice (some ⟨g, o, none⟩) (v :: os).length c) := (blk_cell h.blk 2).trans rfl
  have y1 : w.cell? ⟨x, 1, none⟩ = some (.slice B 0 d) := (blk_cell h.blk 1).trans rfl
  have x4 := blk_frozen h.blk 2
  have hp := h.put2 hq (World.grownBy.refl _ _) (.inl hown)
  have hlen : (v :: os).length = os.length + 1 := rfl
  generalize (v :: os).length = m at *
  subst hlen
  have hpos : decide ((0 : Int) < ((os.length + 1 : Nat) : Int)) = true := decide_eq_true (by omega)
  have hpos2 : ((0 : Int) < ((os.length + 1 : Nat) : Int)) := by omega
  go_enter Try.func16, Try.ntmps16
  go_wp2
  go_ret3
  exact ⟨rfl, ⟨_, _, hp.1⟩, hB.setCell h.xb _, hp.2⟩
theorem ref_take_none {w w0 : World} {base x n : Nat} {cl : Bool} (hR : Rf w base x n [] [] cl) (hB : Below base w0 w) : Calls Try.prog 16 #[.pointer (some ⟨x, 0, none⟩)] w fun e w' => e = .returned (.tuple #[.int .i64 0, .bool false, .int .i64 4]) ∧ Rf w' base x n [] [] cl ∧ Below base w0 w' ∧ Gr x w w' := by
  obtain ⟨v1, v2, h⟩ := hR
  obtain ⟨A, c, rfl, _⟩ := q_slice h.u
  obtain ⟨B, d, rfl, _⟩ := q_slice h.o
  have x1 : w.cell? ⟨x, 1, none⟩ = some (.slice A 0 c) := (blk_cell h.blk 1).trans rfl
  have x2 : w.cell? ⟨x, 2, none⟩ = some (.slice B 0 d) := (blk_cell h.blk 2).trans rfl
  go_enter Try.func16, Try.ntmps16
  go_wp2
  go_ret3
  exact ⟨rfl, ⟨_, _, h⟩, hB, fun _ _ h _ _ => h⟩
end Go.Proofs.Ytgbgakbbkacplaa.Feed
