/-
  A filter in memory; contracts of bloom.New, made and places; conditions: those that each theorem states.
-/
import Derived.Test.YtkpkhggjhpikdaaCrc
import Derived.Test.YtkpkhggjhpikdaaBytes
import Derived.Test.YtkpkhggjhpikdaaAgg
namespace Go.Proofs.Ytkpkhggjhpikdaa.Top
set_option linter.unusedSimpArgs false
set_option linter.unusedVariables false
open Go.RowKit Go.Proofs.YtkpkhggjhpikdaaW.PrintWords Go.Proofs.YtkpkhggjhpikdaaW.PrintLast Go.Proofs.YtkpkhggjhpikdaaW.PrintMore Go.Proofs.Ytkpkhggjhpikdaa.Plain
/-- A filter: its struct in block F, its bytes in block g. -/
structure FlAt (w : World) (base F g hs : Nat) (bl : List Int) : Prop where
  fb : w.heap[F]? = some (.cells #[.slice (some ⟨g, 0, none⟩) bl.length bl.length, .int .i64 hs] 65 (0, 0))
  gb : w.heap[g]? = some (.cells (nums .u8 bl).toArray 5 (0, 0))
  Fb : base ≤ F
  gB : base ≤ g
theorem FlAt.move {w w1 : World} {base F g hs : Nat} {bl : List Int} (h : FlAt w base F g hs bl) (h1 : w1.heap[F]? = w.heap[F]?) (h2 : w1.heap[g]? = w.heap[g]?) : FlAt w1 base F g hs bl := ⟨h1.trans h.fb, h2.trans h.gb, h.Fb, h.gB⟩
theorem FlAt.below {w w1 : World} {base F g hs : Nat} {bl : List Int} (h : FlAt w base F g hs bl) (hb : Below w.heap.size w w1) : FlAt w1 base F g hs bl := h.move (hb.block _ (blk_lt h.fb)) (hb.block _ (blk_lt h.gb))
theorem FlAt.ne {w : World} {base F g hs : Nat} {bl : List Int} (h : FlAt w base F g hs bl) : F ≠ g := by
  rintro rfl
  have := h.fb
  rw [h.gb] at this
  simp at this
theorem made_c {w : World} {base F g hs : Nat} {bl : List Int} (h : FlAt w base F g hs bl) (hh : 0 < hs) : Calls Try.prog 26 #[.pointer (some ⟨F, 0, none⟩)] w fun e w' => e = .returned (.bool true) ∧ w = w' := by
  have x1 : w.cell? ⟨F, 1, none⟩ = some (.int .i64 hs) := (blk_cell h.fb 1).trans rfl
  have t1 : decide ((0 : Int) < (hs : Int)) = true := decide_eq_true (by omega)
  go_enter Try.func26, Try.ntmps26
  go_wp2
  go_ret
  exact ⟨rfl, rfl⟩
set_option maxRecDepth 100000 in
theorem bloom_new {w : World} (d hs : Nat) (h8 : 1 ≤ d) (h9 : d ≤ 8192) (hh1 : 1 ≤ hs) (hh2 : hs ≤ 8) : Calls Try.prog 7 #[.int .i64 ((8 * d : Nat) : Int), .int .i64 hs] w fun e w' => ∃ F g, e = .returned (.tuple #[.pointer (some ⟨F, 0, none⟩), .int .i64 0]) ∧ FlAt w' w.heap.size F g hs (List.replicate d 0) ∧ Below w.heap.size w w' := by
  have t1 : decide (((8 * d : Nat) : Int) < 8) = false := decide_eq_false (by omega)
  have t2 : decide ((65536 : Int) < ((8 * d : Nat) : Int)) = false := decide_eq_false (by omega)
  have t3 : decide ((hs : Int) < 1) = false := decide_eq_false (by omega)
  have t4 : decide ((8 : Int) < (hs : Int)) = false := decide_eq_false (by omega)
  generalize hD : ((8 * d : Nat) : Int) = D at *
  have hD0 : 0 ≤ D := by omega
  have hD1 : D ≤ 65536 := by omega
  have hm : D % 8 = 0 := by omega
  have hq : D / 8 = d := by omega
  have hmk := print_make (P := Try.prog) 23 5 .u8 1 Try.underlying23 info5 (by omega) d (by omega)
  have hl : madeCells #[Value.int .u8 0] d = (nums .u8 (List.replicate d 0)).toArray := by
    apply Array.ext
    · simp [nums, madeCells]
    · intro i h1 h2
      simp [nums, madeCells, Nat.mod_one]
  rw [hl] at hmk
  have HD := Aside0.mk hD
  clear hD hl
  go_enter Try.func7, Try.ntmps7
  go_wp2_with fail
  go_ret2
  refine ⟨w.heap.size + 1, w.heap.size, rfl, ⟨?_, ?_, by omega, Nat.le_refl _⟩, ((Below.refl _ w).alloc (Nat.le_refl _) _).alloc (by simp [World.size_alloc]) _⟩
  · rw [List.length_replicate]
    exact al_new (by simp [World.size_alloc])
  · exact al_old (al_new rfl) _
end Go.Proofs.Ytkpkhggjhpikdaa.Top
