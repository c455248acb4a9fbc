/-
  Contracts of the package feed's calls New, Len and Close, and of all calls on a feed that nobody made; conditions: those that each theorem states.
-/
import Derived.Test.YtgbgakbbkacplaaCalls
import Derived.OneCell
namespace Go.Proofs.Ytgbgakbbkacplaa.Feed
set_option linter.unusedSimpArgs false
set_option linter.unusedVariables false
open Go.Conc Go.RowKit

section
variable {w : World} {b c1 c2 room s r : Nat} {us os : List Int} {cl : Bool}
theorem Fd.free2 (h : Fd w b c1 c2 room us os cl) : w.frozen? ⟨b, 2, none⟩ = false := by simp [World.frozen?, h.blk]
theorem Fd.close (h : Fd w b c1 c2 room us os cl) : Fd (w.setCell ⟨b, 2, none⟩ (.bool true)) b c1 c2 room us os true ∧ Fr b c1 c2 w (w.setCell ⟨b, 2, none⟩ (.bool true)) := by
  obtain ⟨su, ru, h1⟩ := h.u
  obtain ⟨so, ro, h2⟩ := h.o
  have hne : ∀ k, k ≠ b → (w.setCell ⟨b, 2, none⟩ (.bool true)).heap[k]? = w.heap[k]? := fun k hk => Below.heap_setCell _ _ _ _ hk
  refine ⟨⟨?_, ⟨su, ru, by rw [hne _ (Ne.symm h.b1)]; exact h1⟩, ⟨so, ro, by rw [hne _ (Ne.symm h.b2)]; exact h2⟩, h.ne⟩, ⟨by simp [World.setCell], fun k hb _ _ => hne k hb, fun B u hb _ _ hB => hB.setCell hb _⟩⟩
  have hlt := lt_of_block h.blk
  have h' : w.heap[b] = .cells #[.chan (some c1), .chan (some c2), .bool cl] 47 (0, 0) := by simpa [Array.getElem?_eq_getElem hlt] using h.blk
  show (w.heap.modify b _)[b]? = _
  rw [Array.getElem?_eq_getElem (by simpa using hlt), Array.getElem_modify_self, h']
  rfl
theorem Fd.drewN (h : Fd w b c1 c2 room us os cl) (n : Nat) : Fd (w.drewN n) b c1 c2 room us os cl := ⟨h.blk, h.u, h.o, h.ne⟩
theorem Fr.trans {w w1 w2 : World} (h : Fr b c1 c2 w w1) (h' : Fr b c1 c2 w1 w2) : Fr b c1 c2 w w2 :=
  ⟨h'.size.trans h.size, fun k h1 h2 h3 => (h'.other k h1 h2 h3).trans (h.other k h1 h2 h3), fun B u h1 h2 h3 hB => h'.below B u h1 h2 h3 (h.below B u h1 h2 h3 hB)⟩
theorem Fd.ge {B : Nat} {u : World} (h : Fd w b c1 c2 room us os cl) : b < w.heap.size ∧ c1 < w.heap.size ∧ c2 < w.heap.size := by
  obtain ⟨_, _, h1⟩ := h.u
  obtain ⟨_, _, h2⟩ := h.o
  exact ⟨lt_of_heap h.blk, lt_of_heap h1, lt_of_heap h2⟩
end

/-- Close, the first time. -/
theorem close_open {w : World} {b c1 c2 room : Nat} {us os : List Int} (h : Fd w b c1 c2 room us os false) : Calls Try.prog 13 #[.pointer (some ⟨b, 0, none⟩)] w fun e w' => e = .returned (.int .i64 0) ∧ Fd w' b c1 c2 room us os true ∧ Fr b c1 c2 w w' := by
  have h1 := h.cell1
  have h2 := h.cell2
  have h3 := h.free2
  have hp := h.close
  clear h
  go_enter Try.func13, Try.ntmps13
  go_wp2_with (refine (made_yes b c2 _ h1).mono ?_; rintro e w' ⟨rfl, rfl⟩)
  go_ret
  exact ⟨rfl, hp⟩
/-- Close, once more. -/
theorem close_closed {w : World} {b c1 c2 room : Nat} {us os : List Int} (h : Fd w b c1 c2 room us os true) : Calls Try.prog 13 #[.pointer (some ⟨b, 0, none⟩)] w fun e w' => e = .returned (.int .i64 113) ∧ w = w' := by
  have h1 := h.cell1
  have h2 := h.cell2
  go_enter Try.func13, Try.ntmps13
  go_wp2_with (refine (made_yes b c2 _ h1).mono ?_; rintro e w' ⟨rfl, rfl⟩)
  go_ret
  exact ⟨rfl, rfl⟩
theorem len_made {w : World} {b c1 c2 room : Nat} {us os : List Int} {cl : Bool} (h : Fd w b c1 c2 room us os cl) : Calls Try.prog 12 #[.pointer (some ⟨b, 0, none⟩)] w fun e w' => e = .returned (.tuple #[.int .i64 us.length, .int .i64 os.length]) ∧ ∃ n, w' = w.drewN n := by
  have h0 := h.cell0
  have h1 := h.cell1
  obtain ⟨su, ru, hu⟩ := h.u
  obtain ⟨so, ro, ho⟩ := h.o
  have l1 : ∀ n, (Builtin.len_ #[45] 3 #[.chan (some c1)]).run Try.prog (w.drewN n) = .ok (.int .i64 us.length) (w.drewN n) := fun n => by
    have := run_len_chan (P := Try.prog) (w := w.drewN n) 45 3 Try.underlying45 hu
    rw [vals_size] at this
    exact this
  have l2 : ∀ n, (Builtin.len_ #[45] 3 #[.chan (some c2)]).run Try.prog (w.drewN n) = .ok (.int .i64 os.length) (w.drewN n) := fun n => by
    have := run_len_chan (P := Try.prog) (w := w.drewN n) 45 3 Try.underlying45 ho
    rw [vals_size] at this
    exact this
  go_enter Try.func12, Try.ntmps12
  go_wp2_with (refine (made_yes b c2 _ h1).mono ?_; rintro e w' ⟨rfl, rfl⟩)
  go_quiet (fail)
  go_wp2
  go_ret2
  exact ⟨rfl, _, rfl⟩
/-! ### a feed that nobody made -/
theorem put_nil (v : Int) (u : Bool) (w : World) : Calls Try.prog 10 #[.pointer none, .int .i64 v, .bool u] w fun e w' => e = .returned (.int .i64 6) ∧ w = w' := by
  go_enter Try.func10, Try.ntmps10
  go_wp2_with (refine (made_nil _).mono ?_; rintro e w' ⟨rfl, rfl⟩)
  go_ret
  exact ⟨rfl, rfl⟩
theorem put_zero (b : Nat) (v : Int) (u : Bool) (w : World) (h : w.cell? ⟨b, 1, none⟩ = some (.chan none)) : Calls Try.prog 10 #[.pointer (some ⟨b, 0, none⟩), .int .i64 v, .bool u] w fun e w' => e = .returned (.int .i64 6) ∧ w = w' := by
  go_enter Try.func10, Try.ntmps10
  go_wp2_with (refine (made_no b _ h).mono ?_; rintro e w' ⟨rfl, rfl⟩)
  go_ret
  exact ⟨rfl, rfl⟩
theorem take_nil (w : World) : Calls Try.prog 11 #[.pointer none] w fun e w' => e = .returned (.tuple #[.int .i64 0, .bool false, .int .i64 6]) ∧ w = w' := by
  go_enter Try.func11, Try.ntmps11
  go_wp2_with (refine (made_nil _).mono ?_; rintro e w' ⟨rfl, rfl⟩)
  go_ret3
  exact ⟨rfl, rfl⟩
theorem take_zero (b : Nat) (w : World) (h : w.cell? ⟨b, 1, none⟩ = some (.chan none)) : Calls Try.prog 11 #[.pointer (some ⟨b, 0, none⟩)] w fun e w' => e = .returned (.tuple #[.int .i64 0, .bool false, .int .i64 6]) ∧ w = w' := by
  go_enter Try.func11, Try.ntmps11
  go_wp2_with (refine (made_no b _ h).mono ?_; rintro e w' ⟨rfl, rfl⟩)
  go_ret3
  exact ⟨rfl, rfl⟩
theorem len_nil (w : World) : Calls Try.prog 12 #[.pointer none] w fun e w' => e = .returned (.tuple #[.int .i64 0, .int .i64 0]) ∧ w = w' := by
  go_enter Try.func12, Try.ntmps12
  go_wp2_with (refine (made_nil _).mono ?_; rintro e w' ⟨rfl, rfl⟩)
  go_ret2
  exact ⟨rfl, rfl⟩
theorem len_zero (b : Nat) (w : World) (h : w.cell? ⟨b, 1, none⟩ = some (.chan none)) : Calls Try.prog 12 #[.pointer (some ⟨b, 0, none⟩)] w fun e w' => e = .returned (.tuple #[.int .i64 0, .int .i64 0]) ∧ w = w' := by
  go_enter Try.func12, Try.ntmps12
  go_wp2_with (refine (made_no b _ h).mono ?_; rintro e w' ⟨rfl, rfl⟩)
  go_ret2
  exact ⟨rfl, rfl⟩
theorem close_nil (w : World) : Calls Try.prog 13 #[.pointer none] w fun e w' => e = .returned (.int .i64 6) ∧ w = w' := by
  go_enter Try.func13, Try.ntmps13
  go_wp2_with (refine (made_nil _).mono ?_; rintro e w' ⟨rfl, rfl⟩)
  go_ret
  exact ⟨rfl, rfl⟩
theorem close_zero (b : Nat) (w : World) (h : w.cell? ⟨b, 1, none⟩ = some (.chan none)) : Calls Try.prog 13 #[.pointer (some ⟨b, 0, none⟩)] w fun e w' => e = .returned (.int .i64 6) ∧ w = w' := by
  go_enter Try.func13, Try.ntmps13
  go_wp2_with (refine (made_no b _ h).mono ?_; rintro e w' ⟨rfl, rfl⟩)
  go_ret
  exact ⟨rfl, rfl⟩
/-! ### New -/
theorem bytes3 : ∃ i, Try.prog.info? 3 = some i ∧ i.bytes = 8 := by
  have h : (Try.prog.info? 3).map (·.bytes) = some 8 := by kernel_rfl
  obtain ⟨i, hi, hb⟩ := Option.map_eq_some_iff.1 h
  exact ⟨i, hi, hb⟩
theorem mk (room : Nat) (hr : room ≤ 64) (w : World) : (Instr.makeChan 45 (.int .i64 room)).run Try.prog w = .ok (.chan (some w.heap.size)) (w.alloc (.chan room #[] false 0 0 false)) := by
  obtain ⟨i, hi, hb⟩ := bytes3
  simpa using run_makeChan (P := Try.prog) (w := w) Try.underlying45 hi .i64 room (by omega) (by rw [hb]; omega)
theorem new_bad (room : Int) (h : room < 1 ∨ 64 < room) (w : World) : Calls Try.prog 8 #[.int .i64 room] w fun e w' => e = .returned (.tuple #[.pointer none, .int .i64 1]) ∧ w = w' := by
  rcases h with h | h
  · go_enter Try.func8, Try.ntmps8
    go_wp2
    go_ret2
    exact ⟨rfl, rfl⟩
  · have h1 : ¬ room < 1 := by omega
    go_enter Try.func8, Try.ntmps8
    go_wp2
    go_ret2
    exact ⟨rfl, rfl⟩
/-- What New comes to. -/
def Made (room : Nat) (w : World) (e : Ending) (w' : World) : Prop := ∃ b c1 c2, e = .returned (.tuple #[.pointer (some ⟨b, 0, none⟩), .int .i64 0]) ∧ Fd w' b c1 c2 room [] [] false ∧ w.heap.size ≤ b ∧ w.heap.size ≤ c1 ∧ w.heap.size ≤ c2 ∧ Below w.heap.size w w'
theorem made_new (room x y : Nat) (w : World) (h : (x = w.heap.size ∧ y = w.heap.size + 1) ∨ (x = w.heap.size + 1 ∧ y = w.heap.size)) :
    Fd (((w.alloc (.chan room #[] false 0 0 false)).alloc (.chan room #[] false 0 0 false)).alloc (.cells #[.chan (some x), .chan (some y), .bool false] 47)).drew (w.heap.size + 1 + 1) x y room [] [] false ∧
    Below w.heap.size w (((w.alloc (.chan room #[] false 0 0 false)).alloc (.chan room #[] false 0 0 false)).alloc (.cells #[.chan (some x), .chan (some y), .bool false] 47)).drew := by
  have e0 : ∀ o o' o'' : Obj, (((w.alloc o).alloc o').alloc o'').drew.heap[w.heap.size]? = some o := fun o o' o'' => by
    show (((w.alloc o).alloc o').alloc o'').heap[w.heap.size]? = _
    rw [Below.heap_alloc _ _ _ (by simp; omega), Below.heap_alloc _ _ _ (by simp)]
    exact heap_alloc_new w o
  have e1 : ∀ o o' o'' : Obj, (((w.alloc o).alloc o').alloc o'').drew.heap[w.heap.size + 1]? = some o' := fun o o' o'' => by
    show (((w.alloc o).alloc o').alloc o'').heap[w.heap.size + 1]? = _
    rw [Below.heap_alloc _ _ _ (by simp)]
    have := heap_alloc_new (w.alloc o) o'
    simpa only [World.size_alloc] using this
  have e2 : ∀ o o' o'' : Obj, (((w.alloc o).alloc o').alloc o'').drew.heap[w.heap.size + 1 + 1]? = some o'' := fun o o' o'' => by
    show (((w.alloc o).alloc o').alloc o'').heap[w.heap.size + 1 + 1]? = _
    have := heap_alloc_new ((w.alloc o).alloc o') o''
    simpa only [World.size_alloc] using this
  refine ⟨⟨e2 _ _ _, ⟨0, 0, ?_⟩, ⟨0, 0, ?_⟩, by omega⟩, ?_⟩
  · rcases h with ⟨rfl, rfl⟩ | ⟨rfl, rfl⟩
    · exact e0 _ _ _
    · exact e1 _ _ _
  · rcases h with ⟨rfl, rfl⟩ | ⟨rfl, rfl⟩
    · exact e1 _ _ _
    · exact e0 _ _ _
  · exact YtgbgakbbkacplaaW.PrintWords.below_drew ((((Below.refl _ w).alloc (Nat.le_refl _) _).alloc (by simp) _).alloc (by simp; omega) _)
theorem new_good (room : Nat) (h1 : 1 ≤ room) (h2 : room ≤ 64) (w : World) : Calls Try.prog 8 #[.int .i64 room] w (Made room w) := by
  have hm := mk room h2
  have g1 : ¬ (room : Int) < 1 := by omega
  have g2 : ¬ 64 < (room : Int) := by omega
  go_enter Try.func8, Try.ntmps8
  go_wp2
  go_region
  all_goals
    go_wp2
    go_ret2
  · have hx := made_new room w.heap.size (w.heap.size + 1) w (.inl ⟨rfl, rfl⟩)
    exact ⟨_, _, _, rfl, hx.1, by omega, by omega, by omega, hx.2⟩
  · have hx := made_new room (w.heap.size + 1) w.heap.size w (.inr ⟨rfl, rfl⟩)
    exact ⟨_, _, _, rfl, hx.1, by omega, by omega, by omega, hx.2⟩
end Go.Proofs.Ytgbgakbbkacplaa.Feed
