/-
  Contracts of the package feed's calls: New, made, Put, Take, Len, Close; conditions: those that each theorem states.
-/
import Derived.Test.YtgbgakbbkacplaaProg
import Derived.Test.YtgbgakbbkacplaaWWords
import Derived.Conc.LoneCalls
import Derived.Conc.LoneSelect
import Derived.Conc.LoneSelectN
import Derived.KernelRfl
import Derived.Laws.Rows
import Derived.WalkKit
import Derived.Below
import Derived.Deep.QuietTactic
import Derived.BigQuiet
import Derived.RegionTactic
import Derived.ChangeAlike
namespace Go.Proofs.Ytgbgakbbkacplaa.Feed
set_option linter.unusedSimpArgs false
set_option linter.unusedVariables false
open Go.Conc Go.RowKit

/-- A call inside a lone walk, by its contract. -/
theorem LoneTo.call {P : Program} {Q : Goroutine → World → Prop} {b : Frame} {a : Act} {k : List Item} {cs : List Frame} {ops : Array Oper} {i : Nat} {rest : List Nat} {o : Oper} {f : FuncId} {args : Array Value} {w : World} {R : Ending → World → Prop}
    (ho : ops[i]? = some o) (hw : Region.wanted o (yielded ops a.tmps) = true) (hk : b.kind ≠ .early) (hr : (execOp a.eval o).run P w = .ok (.enter f args) w) (hc : Calls P f args w R)
    (hret : ∀ e w2, R e w2 → ∃ v, e = .returned v ∧ LoneTo P Q (G ((b.at a (.inRegion ops (i :: rest) :: k)).finish v) cs) w2) : LoneTo P Q (G (b.at a (.inRegion ops (i :: rest) :: k)) cs) w := by
  obtain ⟨e, w', fr, hR, hcomes, _, hleav⟩ := hc (b.at a (.inRegion ops (i :: rest) :: k) :: cs)
  obtain ⟨v, rfl, g2, w2, hs, hq⟩ := hret e w' hR
  refine LoneTo.step (step_solo_go rfl (stepG_enter ho hw hk hr)) ?_
  refine ⟨g2, w2, ?_, hq⟩
  refine Steps.trans (show Steps P (lone (Frame.enter P f args .normal) (b.at a (.inRegion ops (i :: rest) :: k) :: cs) w) (lone fr (b.at a (.inRegion ops (i :: rest) :: k) :: cs) w') from hcomes) ?_
  exact Steps.head (step_leave_returned hleav) hs

/-- A row's numbers as values. -/
def vals (l : List Int) : Array Value := (l.map (Value.int .i64)).toArray

/-- A feed in memory: its struct in block b, its rows in the channels c1 (urgent) and c2 (other). -/
structure Fd (w : World) (b c1 c2 room : Nat) (us os : List Int) (cl : Bool) : Prop where
  blk : w.heap[b]? = some (.cells #[.chan (some c1), .chan (some c2), .bool cl] 47 (0, 0))
  u : ∃ s r, w.heap[c1]? = some (.chan room (vals us) false s r false)
  o : ∃ s r, w.heap[c2]? = some (.chan room (vals os) false s r false)
  ne : c1 ≠ c2

/-- Only the blocks of a feed may have turned. -/
structure Fr (b c1 c2 : Nat) (w w' : World) : Prop where
  size : w'.heap.size = w.heap.size
  other : ∀ k, k ≠ b → k ≠ c1 → k ≠ c2 → w'.heap[k]? = w.heap[k]?
  below : ∀ B u, B ≤ b → B ≤ c1 → B ≤ c2 → Below B u w → Below B u w'

section
variable {w : World} {b c1 c2 room : Nat} {us os : List Int} {cl : Bool}
theorem Fd.cell0 (h : Fd w b c1 c2 room us os cl) : w.cell? ⟨b, 0, none⟩ = some (.chan (some c1)) := by simp [World.cell?, h.blk]
theorem Fd.cell1 (h : Fd w b c1 c2 room us os cl) : w.cell? ⟨b, 1, none⟩ = some (.chan (some c2)) := by simp [World.cell?, h.blk]
theorem Fd.cell2 (h : Fd w b c1 c2 room us os cl) : w.cell? ⟨b, 2, none⟩ = some (.bool cl) := by simp [World.cell?, h.blk]
theorem Fr.refl (w : World) : Fr b c1 c2 w w := ⟨rfl, fun _ _ _ _ => rfl, fun _ _ _ _ _ h => h⟩
end
theorem equalIn_chan {P : Program} (w : World) (d : Nat) {t e : TypeId} {dir : ChanDir} (x y : Option Nat) (ht : P.underlying t = some (.chan dir e)) : (Op.equalIn (d + 1) t (.chan x) (.chan y)).run P w = .ok (x == y) w := by
  simp [Op.equalIn, run_underlying ht]
theorem neq_chan (x y : Option Nat) (w : World) : (binOp .neq 45 (.chan x) (.chan y)).run Try.prog w = .ok (.bool (x != y)) w := by
  simp only [binOp]
  simp [Op.equal, Op.maxDepth, equalIn_chan w 9999 x y Try.underlying45]
  cases h : x == y <;> simp [bne, h]
theorem neq_some (c : Nat) (w : World) : (binOp .neq 45 (.chan (some c)) (.chan none)).run Try.prog w = .ok (.bool true) w := by rw [neq_chan]; rfl
theorem neq_none (w : World) : (binOp .neq 45 (.chan none) (.chan none)).run Try.prog w = .ok (.bool false) w := by rw [neq_chan]; rfl
theorem made_yes (b : Nat) (c2 : Nat) (w : World) (h : w.cell? ⟨b, 1, none⟩ = some (.chan (some c2))) : Calls Try.prog 18 #[.pointer (some ⟨b, 0, none⟩)] w fun e w' => e = .returned (.bool true) ∧ w = w' := by
  have hn := neq_some c2
  go_enter Try.func18, Try.ntmps18
  go_wp2
  go_ret
  exact ⟨rfl, rfl⟩
theorem made_no (b : Nat) (w : World) (h : w.cell? ⟨b, 1, none⟩ = some (.chan none)) : Calls Try.prog 18 #[.pointer (some ⟨b, 0, none⟩)] w fun e w' => e = .returned (.bool false) ∧ w = w' := by
  have hn := neq_none
  go_enter Try.func18, Try.ntmps18
  go_wp2
  go_ret
  exact ⟨rfl, rfl⟩
theorem made_nil (w : World) : Calls Try.prog 18 #[.pointer none] w fun e w' => e = .returned (.bool false) ∧ w = w' := by
  go_enter Try.func18, Try.ntmps18
  go_wp2
  go_ret
  exact ⟨rfl, rfl⟩

theorem zero3 (w : World) : (zeroValue 3).run Try.prog w = .ok (.int .i64 0) w := by kernel_rfl
theorem vals_push (l : List Int) (v : Int) : (vals l).push (.int .i64 v) = vals (l ++ [v]) := by simp [vals]
theorem vals_size (l : List Int) : (vals l).size = l.length := by simp [vals]
theorem vals_head (v : Int) (l : List Int) : (vals (v :: l))[0]?.getD undef = .int .i64 v := by simp [vals]
theorem vals_tail (v : Int) (l : List Int) : (vals (v :: l)).extract 1 (vals (v :: l)).size = vals l := by
  simp [vals, List.take_of_length_le]
theorem setChan_heap_ne (w : World) {c k : Nat} (h : k ≠ c) (cap : Nat) (buf : Array Value) (cl : Bool) (s r : Nat) (tm : Bool) : (w.setChan c cap buf cl s r tm).heap[k]? = w.heap[k]? := by
  simp [World.setChan, Array.getElem?_setIfInBounds_ne (Ne.symm h)]
theorem lt_of_heap {w : World} {k : Nat} {o : Obj} (h : w.heap[k]? = some o) : k < w.heap.size := by
  obtain ⟨h', _⟩ := Array.getElem?_eq_some_iff.1 h; exact h'
section
variable {w : World} {b c1 c2 room s r : Nat} {us os : List Int} {cl : Bool}
theorem Fd.b1 (h : Fd w b c1 c2 room us os cl) : b ≠ c1 := by
  rintro rfl
  obtain ⟨_, _, h1⟩ := h.u
  rw [h.blk] at h1
  cases h1
theorem Fd.b2 (h : Fd w b c1 c2 room us os cl) : b ≠ c2 := by
  rintro rfl
  obtain ⟨_, _, h1⟩ := h.o
  rw [h.blk] at h1
  cases h1
theorem Fd.setU (h : Fd w b c1 c2 room us os cl) (l : List Int) (s r : Nat) : Fd (w.setChan c1 room (vals l) false s r false) b c1 c2 room l os cl ∧ Fr b c1 c2 w (w.setChan c1 room (vals l) false s r false) := by
  obtain ⟨_, _, h1⟩ := h.u
  obtain ⟨so, ro, h2⟩ := h.o
  refine ⟨⟨by rw [setChan_heap_ne _ h.b1]; exact h.blk, ⟨s, r, heap_setChan _ _ _ _ _ _ _ _ (lt_of_heap h1)⟩, ⟨so, ro, by rw [setChan_heap_ne _ (Ne.symm h.ne)]; exact h2⟩, h.ne⟩, ⟨size_setChan _ _ _ _ _ _ _ _, fun k _ h1 _ => setChan_heap_ne _ h1 _ _ _ _ _ _, fun B u _ hb _ hB => below_setChan hB hb _ _ _ _ _ _⟩⟩
theorem Fd.setO (h : Fd w b c1 c2 room us os cl) (l : List Int) (s r : Nat) : Fd (w.setChan c2 room (vals l) false s r false) b c1 c2 room us l cl ∧ Fr b c1 c2 w (w.setChan c2 room (vals l) false s r false) := by
  obtain ⟨su, ru, h1⟩ := h.u
  obtain ⟨_, _, h2⟩ := h.o
  refine ⟨⟨by rw [setChan_heap_ne _ h.b2]; exact h.blk, ⟨su, ru, by rw [setChan_heap_ne _ h.ne]; exact h1⟩, ⟨s, r, heap_setChan _ _ _ _ _ _ _ _ (lt_of_heap h2)⟩, h.ne⟩, ⟨size_setChan _ _ _ _ _ _ _ _, fun k _ _ h2 => setChan_heap_ne _ h2 _ _ _ _ _ _, fun B u _ _ hb hB => below_setChan hB hb _ _ _ _ _ _⟩⟩
theorem Fd.putU (h : Fd w b c1 c2 room us os cl) (v : Int) (hc : w.heap[c1]? = some (.chan room (vals us) false s r false)) : Fd (w.setChan c1 room ((vals us).push (.int .i64 v)) false (s + 1) r false) b c1 c2 room (us ++ [v]) os cl ∧ Fr b c1 c2 w (w.setChan c1 room ((vals us).push (.int .i64 v)) false (s + 1) r false) := by
  rw [vals_push]; exact h.setU _ _ _
theorem Fd.putO (h : Fd w b c1 c2 room us os cl) (v : Int) (hc : w.heap[c2]? = some (.chan room (vals os) false s r false)) : Fd (w.setChan c2 room ((vals os).push (.int .i64 v)) false (s + 1) r false) b c1 c2 room us (os ++ [v]) cl ∧ Fr b c1 c2 w (w.setChan c2 room ((vals os).push (.int .i64 v)) false (s + 1) r false) := by
  rw [vals_push]; exact h.setO _ _ _
theorem Fd.takeU {v : Int} (h : Fd w b c1 c2 room (v :: us) os cl) : Fd (w.setChan c1 room ((vals (v :: us)).extract 1 (vals (v :: us)).size) false s (r + 1) false) b c1 c2 room us os cl ∧ Fr b c1 c2 w (w.setChan c1 room ((vals (v :: us)).extract 1 (vals (v :: us)).size) false s (r + 1) false) := by
  rw [vals_tail]; exact h.setU _ _ _
theorem Fd.takeO {v : Int} (h : Fd w b c1 c2 room us (v :: os) cl) : Fd (w.setChan c2 room ((vals (v :: os)).extract 1 (vals (v :: os)).size) false s (r + 1) false) b c1 c2 room us os cl ∧ Fr b c1 c2 w (w.setChan c2 room ((vals (v :: os)).extract 1 (vals (v :: os)).size) false s (r + 1) false) := by
  rw [vals_tail]; exact h.setO _ _ _
end

set_option maxRecDepth 100000 in
/-- Put, urgent, with room. -/
theorem put_urgent {w : World} {b c1 c2 room : Nat} {us os : List Int} (v : Int) (h : Fd w b c1 c2 room us os false) (hroom : us.length < room) : Calls Try.prog 10 #[.pointer (some ⟨b, 0, none⟩), .int .i64 v, .bool true] w fun e w' => e = .returned (.int .i64 0) ∧ Fd w' b c1 c2 room (us ++ [v]) os false ∧ Fr b c1 c2 w w' := by
  have h0 := h.cell0
  have h1 := h.cell1
  have h2 := h.cell2
  refine calls_of_loneTo (fun cs => ?_) (by rintro _ ⟨h, _⟩; cases h)
  have e : Frame.enter Try.prog 10 #[.pointer (some ⟨b, 0, none⟩), .int .i64 v, .bool true] .normal = (base 10).at ⟨#[.pointer (some ⟨b, 0, none⟩), .int .i64 v, .bool true, undef, undef, undef, undef, undef, undef, undef, undef, undef, undef, undef, undef, undef, undef, undef, undef, undef, undef, undef, undef, undef, undef, undef, undef, undef, undef], []⟩ [.code (Try.f10.body.getD .skip)] := by
    simp [Frame.enter, Frame.at, Try.func10, base, Try.f10]
  rw [e]
  clear e
  refine LoneTo.goes (n := 8) ?_
  simp only [Try.f10, Option.getD_some]
  s_c stepG_seq
  s_reg
  s_op
  s_c stepG_region_end
  s_c stepG_seq
  s_c stepG_seq
  s_reg
  s_op
  s_stop
  refine LoneTo.call (f := 18) (args := #[.pointer (some ⟨b, 0, none⟩)]) rfl rfl (by decide) (by simp [go_sem, execOp, Act.eval, Try.func18, Try.f18]) (made_yes b c2 w h1) ?_
  rintro e w2 ⟨rfl, rfl⟩
  refine ⟨_, rfl, ?_⟩
  rw [Frame.finish_at]
  walk_nrm
  refine LoneTo.goes (n := 45) ?_
  s_op
  s_c stepG_region_end
  s_cond false
  s_c stepG_skip
  s_c stepG_seq
  s_c stepG_seq
  s_reg
  s_op
  s_op
  s_op
  s_op
  s_c stepG_region_end
  s_cond false
  s_c stepG_skip
  s_c stepG_seq
  s_reg
  s_op
  s_op
  s_op
  s_op
  s_op
  s_c stepG_region_end
  s_c stepG_seq
  s_c stepG_seq
  s_reg
  s_op
  s_c stepG_region_end
  s_cond true
  s_reg
  s_op
  s_op
  s_op
  s_op
  s_op
  s_c stepG_region_end
  s_c stepG_seq
  s_c stepG_seq
  s_reg
  s_op
  s_c stepG_region_end
  s_reg
  s_op
  s_c stepG_region_end
  s_c stepG_seq
  s_reg
  s_stop
  obtain ⟨s, r, hc⟩ := h.u
  refine LoneTo.step (step_lone_select_send_room (c := c1) (v := .int .i64 v) (z' := .int .i64 0) (cap := room) (buf := vals us) (s := s) (r := r) (tm := false) (stepG_comm (cases := #[scase c1 (.int .i64 v) (.int .i64 0)]) (blocking := false) (shape := .select) (w' := w) rfl rfl (by decide) (by simp [go_sem, execOp, scase, Act.eval, zero3])) hc (by simp [vals]; omega)) ?_
  rw [Frame.finish_at]
  walk_nrm
  refine LoneTo.goes (n := 10) ?_
  s_op
  s_op
  s_c stepG_region_end
  s_c stepG_block
  s_cond true
  s_c stepG_seq
  s_reg
  s_op
  s_c stepG_region_end
  s_c stepG_ret'
  s_stop
  refine LoneTo.done ⟨.returned (.int .i64 0), _, rfl, ⟨rfl, h.putU v hc⟩, rfl, rfl, rfl, rfl, _, Try.func10, by simp [results, Try.f10, Frame.at]⟩
set_option maxRecDepth 100000 in
/-- Put, not urgent, with room. -/
theorem put_other {w : World} {b c1 c2 room : Nat} {us os : List Int} (v : Int) (h : Fd w b c1 c2 room us os false) (hroom : os.length < room) : Calls Try.prog 10 #[.pointer (some ⟨b, 0, none⟩), .int .i64 v, .bool false] w fun e w' => e = .returned (.int .i64 0) ∧ Fd w' b c1 c2 room us (os ++ [v]) false ∧ Fr b c1 c2 w w' := by
  have h0 := h.cell0
  have h1 := h.cell1
  have h2 := h.cell2
  refine calls_of_loneTo (fun cs => ?_) (by rintro _ ⟨h, _⟩; cases h)
  have e : Frame.enter Try.prog 10 #[.pointer (some ⟨b, 0, none⟩), .int .i64 v, .bool false] .normal = (base 10).at ⟨#[.pointer (some ⟨b, 0, none⟩), .int .i64 v, .bool false, undef, undef, undef, undef, undef, undef, undef, undef, undef, undef, undef, undef, undef, undef, undef, undef, undef, undef, undef, undef, undef, undef, undef, undef, undef, undef], []⟩ [.code (Try.f10.body.getD .skip)] := by
    simp [Frame.enter, Frame.at, Try.func10, base, Try.f10]
  rw [e]
  clear e
  refine LoneTo.goes (n := 8) ?_
  simp only [Try.f10, Option.getD_some]
  s_c stepG_seq
  s_reg
  s_op
  s_c stepG_region_end
  s_c stepG_seq
  s_c stepG_seq
  s_reg
  s_op
  s_stop
  refine LoneTo.call (f := 18) (args := #[.pointer (some ⟨b, 0, none⟩)]) rfl rfl (by decide) (by simp [go_sem, execOp, Act.eval, Try.func18, Try.f18]) (made_yes b c2 w h1) ?_
  rintro e w2 ⟨rfl, rfl⟩
  refine ⟨_, rfl, ?_⟩
  rw [Frame.finish_at]
  walk_nrm
  refine LoneTo.goes (n := 39) ?_
  s_op
  s_c stepG_region_end
  s_cond false
  s_c stepG_skip
  s_c stepG_seq
  s_c stepG_seq
  s_reg
  s_op
  s_op
  s_op
  s_op
  s_c stepG_region_end
  s_cond false
  s_c stepG_skip
  s_c stepG_seq
  s_reg
  s_op
  s_op
  s_op
  s_op
  s_op
  s_c stepG_region_end
  s_c stepG_seq
  s_c stepG_seq
  s_reg
  s_op
  s_c stepG_region_end
  s_cond false
  s_c stepG_skip
  s_c stepG_seq
  s_c stepG_seq
  s_reg
  s_op
  s_c stepG_region_end
  s_reg
  s_op
  s_c stepG_region_end
  s_c stepG_seq
  s_reg
  s_stop
  obtain ⟨s, r, hc⟩ := h.o
  refine LoneTo.step (step_lone_select_send_room (c := c2) (v := .int .i64 v) (z' := .int .i64 0) (cap := room) (buf := vals os) (s := s) (r := r) (tm := false) (stepG_comm (cases := #[scase c2 (.int .i64 v) (.int .i64 0)]) (blocking := false) (shape := .select) (w' := w) rfl rfl (by decide) (by simp [go_sem, execOp, scase, Act.eval, zero3])) hc (by simp [vals]; omega)) ?_
  rw [Frame.finish_at]
  walk_nrm
  refine LoneTo.goes (n := 10) ?_
  s_op
  s_op
  s_c stepG_region_end
  s_c stepG_block
  s_cond true
  s_c stepG_seq
  s_reg
  s_op
  s_c stepG_region_end
  s_c stepG_ret'
  s_stop
  refine LoneTo.done ⟨.returned (.int .i64 0), _, rfl, ⟨rfl, h.putO v hc⟩, rfl, rfl, rfl, rfl, _, Try.func10, by simp [results, Try.f10, Frame.at]⟩
set_option maxRecDepth 100000 in
/-- Put, urgent, without room. -/
theorem put_urgent_full {w : World} {b c1 c2 room : Nat} {us os : List Int} (v : Int) (h : Fd w b c1 c2 room us os false) (hroom : room ≤ us.length) : Calls Try.prog 10 #[.pointer (some ⟨b, 0, none⟩), .int .i64 v, .bool true] w fun e w' => e = .returned (.int .i64 5) ∧ w = w' := by
  have h0 := h.cell0
  have h1 := h.cell1
  have h2 := h.cell2
  refine calls_of_loneTo (fun cs => ?_) (by rintro _ ⟨h, _⟩; cases h)
  have e : Frame.enter Try.prog 10 #[.pointer (some ⟨b, 0, none⟩), .int .i64 v, .bool true] .normal = (base 10).at ⟨#[.pointer (some ⟨b, 0, none⟩), .int .i64 v, .bool true, undef, undef, undef, undef, undef, undef, undef, undef, undef, undef, undef, undef, undef, undef, undef, undef, undef, undef, undef, undef, undef, undef, undef, undef, undef, undef], []⟩ [.code (Try.f10.body.getD .skip)] := by
    simp [Frame.enter, Frame.at, Try.func10, base, Try.f10]
  rw [e]
  clear e
  refine LoneTo.goes (n := 8) ?_
  simp only [Try.f10, Option.getD_some]
  s_c stepG_seq
  s_reg
  s_op
  s_c stepG_region_end
  s_c stepG_seq
  s_c stepG_seq
  s_reg
  s_op
  s_stop
  refine LoneTo.call (f := 18) (args := #[.pointer (some ⟨b, 0, none⟩)]) rfl rfl (by decide) (by simp [go_sem, execOp, Act.eval, Try.func18, Try.f18]) (made_yes b c2 w h1) ?_
  rintro e w2 ⟨rfl, rfl⟩
  refine ⟨_, rfl, ?_⟩
  rw [Frame.finish_at]
  walk_nrm
  refine LoneTo.goes (n := 45) ?_
  s_op
  s_c stepG_region_end
  s_cond false
  s_c stepG_skip
  s_c stepG_seq
  s_c stepG_seq
  s_reg
  s_op
  s_op
  s_op
  s_op
  s_c stepG_region_end
  s_cond false
  s_c stepG_skip
  s_c stepG_seq
  s_reg
  s_op
  s_op
  s_op
  s_op
  s_op
  s_c stepG_region_end
  s_c stepG_seq
  s_c stepG_seq
  s_reg
  s_op
  s_c stepG_region_end
  s_cond true
  s_reg
  s_op
  s_op
  s_op
  s_op
  s_op
  s_c stepG_region_end
  s_c stepG_seq
  s_c stepG_seq
  s_reg
  s_op
  s_c stepG_region_end
  s_reg
  s_op
  s_c stepG_region_end
  s_c stepG_seq
  s_reg
  s_stop
  obtain ⟨s, r, hc⟩ := h.u
  refine LoneTo.step (step_lone_select_send_full (c := c1) (v := .int .i64 v) (z' := .int .i64 0) (cap := room) (buf := vals us) (s := s) (r := r) (tm := false) (stepG_comm (cases := #[scase c1 (.int .i64 v) (.int .i64 0)]) (blocking := false) (shape := .select) (w' := w) rfl rfl (by decide) (by simp [go_sem, execOp, scase, Act.eval, zero3])) hc (by simp [vals]; omega)) ?_
  rw [Frame.finish_at]
  walk_nrm
  refine LoneTo.goes (n := 10) ?_
  s_op
  s_op
  s_c stepG_region_end
  s_c stepG_block
  s_cond false
  s_c stepG_seq
  s_reg
  s_op
  s_c stepG_region_end
  s_c stepG_ret'
  s_stop
  refine LoneTo.done ⟨.returned (.int .i64 5), _, rfl, ⟨rfl, rfl⟩, rfl, rfl, rfl, rfl, _, Try.func10, by simp [results, Try.f10, Frame.at]⟩
set_option maxRecDepth 100000 in
/-- Put, not urgent, without room. -/
theorem put_other_full {w : World} {b c1 c2 room : Nat} {us os : List Int} (v : Int) (h : Fd w b c1 c2 room us os false) (hroom : room ≤ os.length) : Calls Try.prog 10 #[.pointer (some ⟨b, 0, none⟩), .int .i64 v, .bool false] w fun e w' => e = .returned (.int .i64 5) ∧ w = w' := by
  have h0 := h.cell0
  have h1 := h.cell1
  have h2 := h.cell2
  refine calls_of_loneTo (fun cs => ?_) (by rintro _ ⟨h, _⟩; cases h)
  have e : Frame.enter Try.prog 10 #[.pointer (some ⟨b, 0, none⟩), .int .i64 v, .bool false] .normal = (base 10).at ⟨#[.pointer (some ⟨b, 0, none⟩), .int .i64 v, .bool false, undef, undef, undef, undef, undef, undef, undef, undef, undef, undef, undef, undef, undef, undef, undef, undef, undef, undef, undef, undef, undef, undef, undef, undef, undef, undef], []⟩ [.code (Try.f10.body.getD .skip)] := by
    simp [Frame.enter, Frame.at, Try.func10, base, Try.f10]
  rw [e]
  clear e
  refine LoneTo.goes (n := 8) ?_
  simp only [Try.f10, Option.getD_some]
  s_c stepG_seq
  s_reg
  s_op
  s_c stepG_region_end
  s_c stepG_seq
  s_c stepG_seq
  s_reg
  s_op
  s_stop
  refine LoneTo.call (f := 18) (args := #[.pointer (some ⟨b, 0, none⟩)]) rfl rfl (by decide) (by simp [go_sem, execOp, Act.eval, Try.func18, Try.f18]) (made_yes b c2 w h1) ?_
  rintro e w2 ⟨rfl, rfl⟩
  refine ⟨_, rfl, ?_⟩
  rw [Frame.finish_at]
  walk_nrm
  refine LoneTo.goes (n := 39) ?_
  s_op
  s_c stepG_region_end
  s_cond false
  s_c stepG_skip
  s_c stepG_seq
  s_c stepG_seq
  s_reg
  s_op
  s_op
  s_op
  s_op
  s_c stepG_region_end
  s_cond false
  s_c stepG_skip
  s_c stepG_seq
  s_reg
  s_op
  s_op
  s_op
  s_op
  s_op
  s_c stepG_region_end
  s_c stepG_seq
  s_c stepG_seq
  s_reg
  s_op
  s_c stepG_region_end
  s_cond false
  s_c stepG_skip
  s_c stepG_seq
  s_c stepG_seq
  s_reg
  s_op
  s_c stepG_region_end
  s_reg
  s_op
  s_c stepG_region_end
  s_c stepG_seq
  s_reg
  s_stop
  obtain ⟨s, r, hc⟩ := h.o
  refine LoneTo.step (step_lone_select_send_full (c := c2) (v := .int .i64 v) (z' := .int .i64 0) (cap := room) (buf := vals os) (s := s) (r := r) (tm := false) (stepG_comm (cases := #[scase c2 (.int .i64 v) (.int .i64 0)]) (blocking := false) (shape := .select) (w' := w) rfl rfl (by decide) (by simp [go_sem, execOp, scase, Act.eval, zero3])) hc (by simp [vals]; omega)) ?_
  rw [Frame.finish_at]
  walk_nrm
  refine LoneTo.goes (n := 10) ?_
  s_op
  s_op
  s_c stepG_region_end
  s_c stepG_block
  s_cond false
  s_c stepG_seq
  s_reg
  s_op
  s_c stepG_region_end
  s_c stepG_ret'
  s_stop
  refine LoneTo.done ⟨.returned (.int .i64 5), _, rfl, ⟨rfl, rfl⟩, rfl, rfl, rfl, rfl, _, Try.func10, by simp [results, Try.f10, Frame.at]⟩
set_option maxRecDepth 100000 in
/-- Put into a closed feed. -/
theorem put_closed {w : World} {b c1 c2 room : Nat} {us os : List Int} (v : Int) (h : Fd w b c1 c2 room us os true) (u : Bool) : Calls Try.prog 10 #[.pointer (some ⟨b, 0, none⟩), .int .i64 v, .bool u] w fun e w' => e = .returned (.int .i64 113) ∧ w = w' := by
  have h0 := h.cell0
  have h1 := h.cell1
  have h2 := h.cell2
  refine calls_of_loneTo (fun cs => ?_) (by rintro _ ⟨h, _⟩; cases h)
  have e : Frame.enter Try.prog 10 #[.pointer (some ⟨b, 0, none⟩), .int .i64 v, .bool u] .normal = (base 10).at ⟨#[.pointer (some ⟨b, 0, none⟩), .int .i64 v, .bool u, undef, undef, undef, undef, undef, undef, undef, undef, undef, undef, undef, undef, undef, undef, undef, undef, undef, undef, undef, undef, undef, undef, undef, undef, undef, undef], []⟩ [.code (Try.f10.body.getD .skip)] := by
    simp [Frame.enter, Frame.at, Try.func10, base, Try.f10]
  rw [e]
  clear e
  refine LoneTo.goes (n := 8) ?_
  simp only [Try.f10, Option.getD_some]
  s_c stepG_seq
  s_reg
  s_op
  s_c stepG_region_end
  s_c stepG_seq
  s_c stepG_seq
  s_reg
  s_op
  s_stop
  refine LoneTo.call (f := 18) (args := #[.pointer (some ⟨b, 0, none⟩)]) rfl rfl (by decide) (by simp [go_sem, execOp, Act.eval, Try.func18, Try.f18]) (made_yes b c2 w h1) ?_
  rintro e w2 ⟨rfl, rfl⟩
  refine ⟨_, rfl, ?_⟩
  rw [Frame.finish_at]
  walk_nrm
  refine LoneTo.goes (n := 18) ?_
  s_op
  s_c stepG_region_end
  s_cond false
  s_c stepG_skip
  s_c stepG_seq
  s_c stepG_seq
  s_reg
  s_op
  s_op
  s_op
  s_op
  s_c stepG_region_end
  s_cond true
  s_c stepG_seq
  s_reg
  s_op
  s_c stepG_region_end
  s_c stepG_ret'
  s_stop
  refine LoneTo.done ⟨.returned (.int .i64 113), _, rfl, ⟨rfl, rfl⟩, rfl, rfl, rfl, rfl, _, Try.func10, by simp [results, Try.f10, Frame.at]⟩
set_option maxRecDepth 100000 in
/-- Take, where an urgent one is there. -/
theorem take_urgent {w : World} {b c1 c2 room : Nat} {us os : List Int} {cl : Bool} {v : Int} (h : Fd w b c1 c2 room (v :: us) os cl) : Calls Try.prog 11 #[.pointer (some ⟨b, 0, none⟩)] w fun e w' => e = .returned (.tuple #[.int .i64 v, .bool true, .int .i64 0]) ∧ Fd w' b c1 c2 room us os cl ∧ Fr b c1 c2 w w' := by
  have h0 := h.cell0
  have h1 := h.cell1
  refine calls_of_loneTo (fun cs => ?_) (by rintro _ ⟨h, _⟩; cases h)
  have e : Frame.enter Try.prog 11 #[.pointer (some ⟨b, 0, none⟩)] .normal = (base 11).at ⟨#[.pointer (some ⟨b, 0, none⟩), undef, undef, undef, undef, undef, undef, undef, undef, undef, undef, undef, undef, undef, undef, undef, undef, undef, undef, undef, undef, undef, undef, undef, undef, undef, undef, undef], []⟩ [.code (Try.f11.body.getD .skip)] := by
    simp [Frame.enter, Frame.at, Try.func11, base, Try.f11]
  rw [e]
  clear e
  refine LoneTo.goes (n := 10) ?_
  simp only [Try.f11, Option.getD_some]
  s_c stepG_seq
  s_reg
  s_op
  s_op
  s_op
  s_c stepG_region_end
  s_c stepG_seq
  s_c stepG_seq
  s_reg
  s_op
  s_stop
  refine LoneTo.call (f := 18) (args := #[.pointer (some ⟨b, 0, none⟩)]) rfl rfl (by decide) (by simp [go_sem, execOp, Act.eval, Try.func18, Try.f18]) (made_yes b c2 w h1) ?_
  rintro e w2 ⟨rfl, rfl⟩
  refine ⟨_, rfl, ?_⟩
  rw [Frame.finish_at]
  walk_nrm
  refine LoneTo.goes (n := 14) ?_
  s_op
  s_c stepG_region_end
  s_cond false
  s_c stepG_skip
  s_c stepG_seq
  s_c stepG_seq
  s_reg
  s_op
  s_op
  s_op
  s_op
  s_c stepG_region_end
  s_c stepG_seq
  s_reg
  s_stop
  obtain ⟨s, r, hc⟩ := h.u
  refine LoneTo.step (step_lone_select_recv_buf (c := c1) (z := .int .i64 0) (cap := room) (buf := vals (v :: us)) (closed := false) (s := s) (r := r) (tm := false) (stepG_comm (cases := #[rcase c1 (.int .i64 0)]) (blocking := false) (shape := .select) (w' := w) rfl rfl (by decide) (by simp [go_sem, execOp, rcase, Act.eval, zero3])) hc (by simp [vals])) ?_
  rw [Frame.finish_at]
  walk_nrm
  rw [vals_head]
  refine LoneTo.goes (n := 18) ?_
  s_op
  s_op
  s_c stepG_region_end
  s_c stepG_block
  s_cond true
  s_c stepG_seq
  s_reg
  s_op
  s_op
  s_c stepG_region_end
  s_c stepG_seq
  s_reg
  s_op
  s_op
  s_op
  s_op
  s_c stepG_region_end
  s_c stepG_ret'
  s_stop
  refine LoneTo.done ⟨.returned (.tuple #[.int .i64 v, .bool true, .int .i64 0]), _, rfl, ⟨rfl, h.takeU⟩, rfl, rfl, rfl, rfl, _, Try.func11, by simp [results, Try.f11, Frame.at]⟩
set_option maxRecDepth 100000 in
/-- Take, where no urgent one is there, but another one. -/
theorem take_other {w : World} {b c1 c2 room : Nat} {os : List Int} {cl : Bool} {v : Int} (h : Fd w b c1 c2 room [] (v :: os) cl) : Calls Try.prog 11 #[.pointer (some ⟨b, 0, none⟩)] w fun e w' => e = .returned (.tuple #[.int .i64 v, .bool false, .int .i64 0]) ∧ Fd w' b c1 c2 room [] os cl ∧ Fr b c1 c2 w w' := by
  have h0 := h.cell0
  have h1 := h.cell1
  refine calls_of_loneTo (fun cs => ?_) (by rintro _ ⟨h, _⟩; cases h)
  have e : Frame.enter Try.prog 11 #[.pointer (some ⟨b, 0, none⟩)] .normal = (base 11).at ⟨#[.pointer (some ⟨b, 0, none⟩), undef, undef, undef, undef, undef, undef, undef, undef, undef, undef, undef, undef, undef, undef, undef, undef, undef, undef, undef, undef, undef, undef, undef, undef, undef, undef, undef], []⟩ [.code (Try.f11.body.getD .skip)] := by
    simp [Frame.enter, Frame.at, Try.func11, base, Try.f11]
  rw [e]
  clear e
  refine LoneTo.goes (n := 10) ?_
  simp only [Try.f11, Option.getD_some]
  s_c stepG_seq
  s_reg
  s_op
  s_op
  s_op
  s_c stepG_region_end
  s_c stepG_seq
  s_c stepG_seq
  s_reg
  s_op
  s_stop
  refine LoneTo.call (f := 18) (args := #[.pointer (some ⟨b, 0, none⟩)]) rfl rfl (by decide) (by simp [go_sem, execOp, Act.eval, Try.func18, Try.f18]) (made_yes b c2 w h1) ?_
  rintro e w2 ⟨rfl, rfl⟩
  refine ⟨_, rfl, ?_⟩
  rw [Frame.finish_at]
  walk_nrm
  refine LoneTo.goes (n := 14) ?_
  s_op
  s_c stepG_region_end
  s_cond false
  s_c stepG_skip
  s_c stepG_seq
  s_c stepG_seq
  s_reg
  s_op
  s_op
  s_op
  s_op
  s_c stepG_region_end
  s_c stepG_seq
  s_reg
  s_stop
  obtain ⟨s, r, hc⟩ := h.u
  refine LoneTo.step (step_lone_select_default (c := c1) (z := .int .i64 0) (cap := room) (s := s) (r := r) (tm := false) (stepG_comm (cases := #[rcase c1 (.int .i64 0)]) (blocking := false) (shape := .select) (w' := w) rfl rfl (by decide) (by simp [go_sem, execOp, rcase, Act.eval, zero3])) hc) ?_
  rw [Frame.finish_at]
  walk_nrm
  refine LoneTo.goes (n := 16) ?_
  s_op
  s_op
  s_c stepG_region_end
  s_c stepG_block
  s_cond false
  s_c stepG_skip
  s_c stepG_inBlock
  s_c stepG_seq
  s_reg
  s_op
  s_op
  s_op
  s_op
  s_c stepG_region_end
  s_c stepG_seq
  s_reg
  s_stop
  obtain ⟨s2, r2, hc2⟩ := h.o
  refine LoneTo.step (step_lone_select_recv_buf (c := c2) (z := .int .i64 0) (cap := room) (buf := vals (v :: os)) (closed := false) (s := s2) (r := r2) (tm := false) (stepG_comm (cases := #[rcase c2 (.int .i64 0)]) (blocking := false) (shape := .select) (w' := w) rfl rfl (by decide) (by simp [go_sem, execOp, rcase, Act.eval, zero3])) hc2 (by simp [vals])) ?_
  rw [Frame.finish_at]
  walk_nrm
  rw [vals_head]
  refine LoneTo.goes (n := 18) ?_
  s_op
  s_op
  s_c stepG_region_end
  s_c stepG_block
  s_cond true
  s_c stepG_seq
  s_reg
  s_op
  s_op
  s_c stepG_region_end
  s_c stepG_seq
  s_reg
  s_op
  s_op
  s_op
  s_op
  s_c stepG_region_end
  s_c stepG_ret'
  s_stop
  refine LoneTo.done ⟨.returned (.tuple #[.int .i64 v, .bool false, .int .i64 0]), _, rfl, ⟨rfl, h.takeO⟩, rfl, rfl, rfl, rfl, _, Try.func11, by simp [results, Try.f11, Frame.at]⟩
set_option maxRecDepth 100000 in
/-- Take, where nothing is there. -/
theorem take_none {w : World} {b c1 c2 room : Nat} {cl : Bool} (h : Fd w b c1 c2 room [] [] cl) : Calls Try.prog 11 #[.pointer (some ⟨b, 0, none⟩)] w fun e w' => e = .returned (.tuple #[.int .i64 0, .bool false, .int .i64 4]) ∧ w = w' := by
  have h0 := h.cell0
  have h1 := h.cell1
  refine calls_of_loneTo (fun cs => ?_) (by rintro _ ⟨h, _⟩; cases h)
  have e : Frame.enter Try.prog 11 #[.pointer (some ⟨b, 0, none⟩)] .normal = (base 11).at ⟨#[.pointer (some ⟨b, 0, none⟩), undef, undef, undef, undef, undef, undef, undef, undef, undef, undef, undef, undef, undef, undef, undef, undef, undef, undef, undef, undef, undef, undef, undef, undef, undef, undef, undef], []⟩ [.code (Try.f11.body.getD .skip)] := by
    simp [Frame.enter, Frame.at, Try.func11, base, Try.f11]
  rw [e]
  clear e
  refine LoneTo.goes (n := 10) ?_
  simp only [Try.f11, Option.getD_some]
  s_c stepG_seq
  s_reg
  s_op
  s_op
  s_op
  s_c stepG_region_end
  s_c stepG_seq
  s_c stepG_seq
  s_reg
  s_op
  s_stop
  refine LoneTo.call (f := 18) (args := #[.pointer (some ⟨b, 0, none⟩)]) rfl rfl (by decide) (by simp [go_sem, execOp, Act.eval, Try.func18, Try.f18]) (made_yes b c2 w h1) ?_
  rintro e w2 ⟨rfl, rfl⟩
  refine ⟨_, rfl, ?_⟩
  rw [Frame.finish_at]
  walk_nrm
  refine LoneTo.goes (n := 14) ?_
  s_op
  s_c stepG_region_end
  s_cond false
  s_c stepG_skip
  s_c stepG_seq
  s_c stepG_seq
  s_reg
  s_op
  s_op
  s_op
  s_op
  s_c stepG_region_end
  s_c stepG_seq
  s_reg
  s_stop
  obtain ⟨s, r, hc⟩ := h.u
  refine LoneTo.step (step_lone_select_default (c := c1) (z := .int .i64 0) (cap := room) (s := s) (r := r) (tm := false) (stepG_comm (cases := #[rcase c1 (.int .i64 0)]) (blocking := false) (shape := .select) (w' := w) rfl rfl (by decide) (by simp [go_sem, execOp, rcase, Act.eval, zero3])) hc) ?_
  rw [Frame.finish_at]
  walk_nrm
  refine LoneTo.goes (n := 16) ?_
  s_op
  s_op
  s_c stepG_region_end
  s_c stepG_block
  s_cond false
  s_c stepG_skip
  s_c stepG_inBlock
  s_c stepG_seq
  s_reg
  s_op
  s_op
  s_op
  s_op
  s_c stepG_region_end
  s_c stepG_seq
  s_reg
  s_stop
  obtain ⟨s2, r2, hc2⟩ := h.o
  refine LoneTo.step (step_lone_select_default (c := c2) (z := .int .i64 0) (cap := room) (s := s2) (r := r2) (tm := false) (stepG_comm (cases := #[rcase c2 (.int .i64 0)]) (blocking := false) (shape := .select) (w' := w) rfl rfl (by decide) (by simp [go_sem, execOp, rcase, Act.eval, zero3])) hc2) ?_
  rw [Frame.finish_at]
  walk_nrm
  refine LoneTo.goes (n := 12) ?_
  s_op
  s_op
  s_c stepG_region_end
  s_c stepG_block
  s_cond false
  s_c stepG_seq
  s_reg
  s_op
  s_op
  s_op
  s_c stepG_region_end
  s_c stepG_ret'
  s_stop
  refine LoneTo.done ⟨.returned (.tuple #[.int .i64 0, .bool false, .int .i64 4]), _, rfl, ⟨rfl, rfl⟩, rfl, rfl, rfl, rfl, _, Try.func11, by simp [results, Try.f11, Frame.at]⟩
end Go.Proofs.Ytgbgakbbkacplaa.Feed
