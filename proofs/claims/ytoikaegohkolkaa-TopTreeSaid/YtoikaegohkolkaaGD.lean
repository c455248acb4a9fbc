/-
  Runs that are a tree: pick.Right, full; conditions: those that each theorem states.
-/
import Derived.Test.YtoikaegohkolkaaYBase
import Derived.Maps.OwnSet
import Derived.Maps.Views
namespace Go.Proofs.Ytoikaegohkolkaa.Top
set_option linter.unusedSimpArgs false
set_option linter.unusedVariables false
open Go.RowKit Go.Proofs.YtoikaegohkolkaaW.PrintWords Go.Proofs.YtoikaegohkolkaaW.PrintLast Go.Proofs.YtoikaegohkolkaaW.PrintMore Go.Maps
/-- A run: its file, its level, how many entries, whether it is stale. -/
structure Rn where
  f : Int
  l : Int
  n : Int
  s : Bool
def Rn.cells (x : Rn) : List Value := [.int .i64 x.f, .int .i64 x.l, .int .i64 x.n, .bool x.s]
/-- Runs in a row. -/
def RnRow (W : World) (b : Nat) (rs : List Rn) : Prop := ∀ j (hj : j < rs.length) m u, rs[j].cells[m]? = some u → W.cell? ⟨b, j * 4 + m, none⟩ = some u
theorem RnRow.below {W W1 : World} {b : Nat} {rs : List Rn} (h : RnRow W b rs) (hb : Below W.heap.size W W1) : RnRow W1 b rs := fun j hj m u hu => cell_below hb (h j hj m u hu)
theorem RnRow.cells {W : World} {b : Nat} {rs : List Rn} (h : RnRow W b rs) {j : Nat} (hj : j < rs.length) :
    W.cell? ⟨b, j * 4, none⟩ = some (.int .i64 rs[j].f) ∧ W.cell? ⟨b, j * 4 + 1, none⟩ = some (.int .i64 rs[j].l) ∧ W.cell? ⟨b, j * 4 + 2, none⟩ = some (.int .i64 rs[j].n) ∧ W.cell? ⟨b, j * 4 + 3, none⟩ = some (.bool rs[j].s) :=
  ⟨h j hj 0 _ rfl, h j hj 1 _ rfl, h j hj 2 _ rfl, h j hj 3 _ rfl⟩
/-- Runs that are a tree: all of level 0, or one alone. -/
structure RnOk (rs : List Rn) : Prop where
  len : rs.length ≤ 64
  fp : ∀ x ∈ rs, 1 ≤ x.f ∧ x.f < 9223372036854775807
  lv : ∀ x ∈ rs, 0 ≤ x.l ∧ x.l < 4
  np : ∀ x ∈ rs, 1 ≤ x.n ∧ x.n < 1000000
  df : rs.Pairwise fun x y => x.f < y.f
  l0 : rs.length ≤ 1 ∨ ∀ x ∈ rs, x.l = 0
/-- What the files' map holds. -/
def FilesAt (rs : List Rn) (j : Nat) (D : DataW Unit) : Prop := ∀ z : Int, (Maps.has D (.int .i64 z) = true ↔ ∃ x ∈ rs.take j, x.f = z)
theorem zeroB (w : World) : (zeroValue 4).run Try.prog w = .ok (.bool false) w := by kernel_rfl
set_option maxRecDepth 100000 in
theorem files_not {W : World} {mb n : Nat} {D : DataW Unit} {rs : List Rn} {j : Nat} (ho : W.ownsMap Try.prog 3 (plainElem Try.prog 4) mb n D) (hf : FilesAt rs j D) {z : Int} (hz : ∀ x ∈ rs.take j, x.f ≠ z) (hw : (Lit.int .i64 z).wf = true) :
    (Instr.lookup 86 (.map (some mb)) (.int .i64 z) false).run Try.prog W = .ok (.bool false) W := by
  have hn : Maps.has D (.int .i64 z) = false := by
    cases h : Maps.has D (.int .i64 z) with
    | false => rfl
    | true =>
      obtain ⟨x, hx, e⟩ := (hf z).1 h
      exact absurd e (hz x hx)
  have hz0 : plainElem (H := Unit) Try.prog 4 (.bool false) = some (.lit (.bool false), []) := plainElem_bool Try.underlying4 false
  obtain ⟨v, ps, hrun, hv⟩ := ho.lookup (int_keyed Try.underlying3) Try.underlying86 (zeroB W) hz0 (keyOf_int_mk Try.underlying3 hw)
  rw [atKey_of_not_has hn] at hv
  have : v = .bool false := by
    unfold plainElem at hv
    rw [Try.underlying4] at hv
    cases v <;> simp at hv
    rw [hv.1]
  rw [hrun, this]
/-- What the loop holds. -/
structure PrI (w : World) (rs : List Rn) (j : Nat) (D : DataW Unit) (W : World) : Prop where
  be : Below w.heap.size w W
  mp : W.ownsMap Try.prog 3 (plainElem Try.prog 4) (w.heap.size + 1) j D
  fa : FilesAt rs j D
  sn : ∃ v0 v1 v2 v3 : Bool, W.heap[w.heap.size]? = some (.cells #[.bool v0, .bool v1, .bool v2, .bool v3] 85 (0, 0)) ∧ (j < rs.length → v1 = false ∧ v2 = false ∧ v3 = false)
theorem files_none (rs : List Rn) : FilesAt rs 0 (.map []) := fun z => by
  constructor
  · intro h
    have h' : Maps.has (H := Unit) (.map []) (.int .i64 z) = false := rfl
    rw [h'] at h
    cases h
  · rintro ⟨x, hx, _⟩
    rw [List.take_zero] at hx
    cases hx
theorem PrI.step {w wr W1 w2 : World} {rs : List Rn} {j : Nat} {D : DataW Unit} {x : Rn} {i : Nat} {v0 v1 v2 v3 : Bool} (hI : PrI w rs j D wr) (hlt : j < rs.length) (hx : rs[j] = x) (hB1 : Below w.heap.size w W1) (hg : W1.drew.grownBy w2 (some (w.heap.size + 1)))
    (hm : w2.ownsMap Try.prog 3 (plainElem Try.prog 4) (w.heap.size + 1) (j + 1) (D.put (.int .i64 x.f) (.lit (.bool true)))) (hs : w2.heap[w.heap.size]? = some (.cells #[.bool v0, .bool v1, .bool v2, .bool v3] 85 (0, 0)))
    (hi : i < 4) (hv : j + 1 < rs.length → i = 0 ∧ v1 = false ∧ v2 = false ∧ v3 = false) : PrI w rs (j + 1) (D.put (.int .i64 x.f) (.lit (.bool true))) (w2.setCell ⟨w.heap.size, i, none⟩ (.bool true)) := by
  have hlt2 := hm.lt
  refine ⟨?_, ?_, fun z => ?_, ?_⟩
  · exact ((below_drew hB1).grown hg hB1.size (fun k hk => by cases hk; omega)).setCell (p := ⟨w.heap.size, i, none⟩) (Nat.le_refl _) _
  · exact hm.setCell (by simp) _
  · rw [List.take_succ_eq_append_getElem hlt, hx]
    by_cases hz : z = x.f
    · subst hz
      rw [has_put_same hI.mp.isMap (show WideAt.IsKeyLit (.int .i64 x.f) from trivial)]
      exact ⟨fun _ => ⟨x, by simp, rfl⟩, fun _ => rfl⟩
    · rw [has_put_other (by intro e; injection e with _ e; exact hz e)]
      rw [hI.fa z]
      constructor
      · rintro ⟨y, hy, e⟩
        exact ⟨y, List.mem_append_left _ hy, e⟩
      · rintro ⟨y, hy, e⟩
        rcases List.mem_append.1 hy with hy | hy
        · exact ⟨y, hy, e⟩
        · simp at hy
          rw [hy] at e
          exact absurd e.symm hz
  · match i, hi with
    | 0, _ => exact ⟨true, v1, v2, v3, blk_put hs 0 _ rfl, fun h => (hv h).2⟩
    | 1, _ => exact ⟨v0, true, v2, v3, blk_put hs 1 _ rfl, fun h => absurd (hv h).1 (by omega)⟩
    | 2, _ => exact ⟨v0, v1, true, v3, blk_put hs 2 _ rfl, fun h => absurd (hv h).1 (by omega)⟩
    | 3, _ => exact ⟨v0, v1, v2, true, blk_put hs 3 _ rfl, fun h => absurd (hv h).1 (by omega)⟩
set_option maxRecDepth 100000 in
theorem pright_c {w : World} {R : Option Addr} {b c : Nat} {rs : List Rn} (hR : rs ≠ [] → R = some ⟨b, 0, none⟩) (h : RnRow w b rs) (hok : RnOk rs) :
    Calls Try.prog 15 #[.slice R rs.length c] w fun e w' => e = .returned (.bool true) ∧ Below w.heap.size w w' := by
  have HR := Aside0.mk hR
  have H := Aside0.mk h
  have HOK := Aside0.mk hok
  have hlen := hok.len
  have d1 : decide ((64 : Int) < (rs.length : Int)) = false := decide_eq_false (by omega)
  have d2 : decide (64 < rs.length) = false := decide_eq_false (by omega)
  have hmm := @run_makeMap Try.prog
  clear hR h hok
  go_enter Try.func15, Try.ntmps15
  go_wp2_with fail
  have hI0 : PrI w rs 0 (.map []) ((w.alloc (.cells #[.bool false, .bool false, .bool false, .bool false] 85)).alloc (.map #[] 0)) := by
    refine ⟨((Below.refl _ w).alloc (Nat.le_refl _) _).alloc (by rw [World.size_alloc]; omega) _, ?_, files_none rs, false, false, false, false, al_old (al_new rfl) _, fun _ => ⟨rfl, rfl, rfl⟩⟩
    have := World.ownsMap_made (H := Unit) (w.alloc (.cells #[.bool false, .bool false, .bool false, .bool false] 85)) Try.prog 3 (plainElem Try.prog 4)
    rwa [World.size_alloc] at this
  generalize ((w.alloc (.cells #[.bool false, .bool false, .bool false, .bool false] 85)).alloc (.map #[] 0)) = w1 at *
  have HI0 := Aside0.mk hI0
  clear hI0 hmm d1 d2
  go_loopw [13] (fun i wr => ∃ (j : Nat) (D : DataW Unit), i = .int .i64 j ∧ j ≤ rs.length ∧ Aside0 (PrI w rs j D wr)) (fun i _ => rs.length - (intOf i).toNat)
  case atStart => exact ⟨0, _, rfl, by omega, HI0⟩
  case round =>
    clear HI0
    obtain ⟨j, D, rfl, hj, HI⟩ := hrel
    by_cases hlt : j < rs.length
    · have t1 : decide (j < rs.length) = true := decide_eq_true hlt
      obtain rfl := HR.out (by intro e; rw [e] at hlt; simp at hlt)
      obtain ⟨x0, x1, x2, x3⟩ := (RnRow.below H.out HI.out.be).cells hlt
      have hx := List.getElem_mem hlt
      have hf := HOK.out.fp _ hx
      have hlv := HOK.out.lv _ hx
      have hn := HOK.out.np _ hx
      have hnew : ∀ y ∈ rs.take j, y.f ≠ rs[j].f := fun y hy => by
        have hp := HOK.out.df
        rw [← List.take_append_drop j rs] at hp
        refine Int.ne_of_lt ((List.pairwise_append.1 hp).2.2 y hy _ ?_)
        rw [← List.getElem_cons_drop hlt]
        exact List.mem_cons_self ..
      have hl0 := HOK.out.l0
      have hrun := files_not (HI.out.mp.alloc (.cells #[.int .i64 rs[j].f, .int .i64 rs[j].l, .int .i64 rs[j].n, .bool rs[j].s] 47)) HI.out.fa hnew (WalkArith.wf_i64 (by omega))
      have HNEW := Aside0.mk hnew
      have HX := Aside0.mk hx
      have HXJ : Aside0 (∃ y, y = rs[j]) := ⟨_, rfl⟩
      generalize hxe : rs[j] = x at *
      have HXE := Aside0.mk hxe
      clear hnew hx hxe HXJ
      obtain ⟨xf, xl, xn, xs⟩ := x
      simp only at x0 x1 x2 x3 hf hlv hn hrun
      have t2 : decide (xf < 1) = false := decide_eq_false (by omega)
      have t3 : decide (xl < 0) = false := decide_eq_false (by omega)
      have t4 : decide (4 ≤ xl) = false := decide_eq_false (by omega)
      have t5 : decide (xn < 1) = false := decide_eq_false (by omega)
      obtain rfl | rfl | rfl | rfl : xl = 0 ∨ xl = 1 ∨ xl = 2 ∨ xl = 3 := by omega
      · obtain ⟨v0, v1, v2, v3, hsn, hsv⟩ := HI.out.sn
        have hS1 := al_old hsn (.cells #[.int .i64 xf, .int .i64 0, .int .i64 xn, .bool xs] 47)
        go_upto_region 10 with fail
        have hB1 := HI.out.be.alloc HI.out.be.size (.cells #[.int .i64 xf, .int .i64 0, .int .i64 xn, .bool xs] 47)
        have hM1 := HI.out.mp.alloc (.cells #[.int .i64 xf, .int .i64 0, .int .i64 xn, .bool xs] 47)
        have hK1 := al_new (W := wr) (o := .cells #[.int .i64 xf, .int .i64 0, .int .i64 xn, .bool xs] 47) rfl
        generalize wr.alloc (.cells #[.int .i64 xf, .int .i64 0, .int .i64 xn, .bool xs] 47) = W1 at *
        have c0 : W1.cell? ⟨wr.heap.size, 0, none⟩ = some (.int .i64 xf) := (blk_cell hK1 0).trans rfl
        have c1 : W1.cell? ⟨wr.heap.size, 1, none⟩ = some (.int .i64 0) := (blk_cell hK1 1).trans rfl
        obtain ⟨w2, hup, hM2, hg2⟩ := hM1.drew.update (int_keyed Try.underlying3) Try.underlying86 (by unfold maxLen; omega) (keyOf_int_mk Try.underlying3 (WalkArith.wf_i64 (n := xf) (by omega))) (plainElem_bool Try.underlying4 true)
        have hS2 := (hg2.block w.heap.size (blk_lt hS1) (by simp)).trans hS1
        have c2 : w2.cell? ⟨wr.heap.size, 1, none⟩ = some (.int .i64 0) := (blk_cell ((hg2.block wr.heap.size (blk_lt hK1) (by simp only [ne_eq, Option.some.injEq]; have := HI.out.mp.lt; omega)).trans hK1) 1).trans rfl
        have s0 := (blk_cell hS2 0)
        have s1 : w2.frozen? ⟨w.heap.size, 0, none⟩ = false := blk_frozen hS2 0
        replace s0 := s0.trans rfl
        have hI2 := PrI.step HI.out hlt HXE.out hB1 hg2 hM2 hS2 (i := 0) (by omega) (fun h => ⟨rfl, hsv hlt⟩)
        have HI2 := Aside0.mk hI2
        clear hM1 hsn hS1 hK1 x0 x1 x2 x3 hrun hM2 hg2 hB1 hS2 hI2
        go_region
        go_wp2_with fail
        go_roundw
        case rel => exact ⟨j + 1, _, by go_num, by omega, HI2⟩
        case measure => simp [intOf]; omega
      · obtain ⟨v0, v1, v2, v3, hsn, hsv⟩ := HI.out.sn
        have hS1 := al_old hsn (.cells #[.int .i64 xf, .int .i64 1, .int .i64 xn, .bool xs] 47)
        have hone : rs.length ≤ 1 := by
          rcases hl0 with h | h
          · exact h
          · have := h _ HX.out
            simp at this
        obtain ⟨rfl, rfl, rfl⟩ := hsv hlt
        have q0 : (wr.alloc (.cells #[.int .i64 xf, .int .i64 1, .int .i64 xn, .bool xs] 47)).cell? ⟨w.heap.size, 1, none⟩ = some (.bool false) := (blk_cell hS1 1).trans rfl
        have t6 : decide ((0 : Int) < 1) = true := rfl
        go_upto_region 10 with fail
        have hB1 := HI.out.be.alloc HI.out.be.size (.cells #[.int .i64 xf, .int .i64 1, .int .i64 xn, .bool xs] 47)
        have hM1 := HI.out.mp.alloc (.cells #[.int .i64 xf, .int .i64 1, .int .i64 xn, .bool xs] 47)
        have hK1 := al_new (W := wr) (o := .cells #[.int .i64 xf, .int .i64 1, .int .i64 xn, .bool xs] 47) rfl
        generalize wr.alloc (.cells #[.int .i64 xf, .int .i64 1, .int .i64 xn, .bool xs] 47) = W1 at *
        have c0 : W1.cell? ⟨wr.heap.size, 0, none⟩ = some (.int .i64 xf) := (blk_cell hK1 0).trans rfl
        have c1 : W1.cell? ⟨wr.heap.size, 1, none⟩ = some (.int .i64 1) := (blk_cell hK1 1).trans rfl
        obtain ⟨w2, hup, hM2, hg2⟩ := hM1.drew.update (int_keyed Try.underlying3) Try.underlying86 (by unfold maxLen; omega) (keyOf_int_mk Try.underlying3 (WalkArith.wf_i64 (n := xf) (by omega))) (plainElem_bool Try.underlying4 true)
        have hS2 := (hg2.block w.heap.size (blk_lt hS1) (by simp)).trans hS1
        have c2 : w2.cell? ⟨wr.heap.size, 1, none⟩ = some (.int .i64 1) := (blk_cell ((hg2.block wr.heap.size (blk_lt hK1) (by simp only [ne_eq, Option.some.injEq]; have := HI.out.mp.lt; omega)).trans hK1) 1).trans rfl
        have s0 := (blk_cell hS2 1)
        have s1 : w2.frozen? ⟨w.heap.size, 1, none⟩ = false := blk_frozen hS2 1
        replace s0 := s0.trans rfl
        have hI2 := PrI.step HI.out hlt HXE.out hB1 hg2 hM2 hS2 (i := 1) (by omega) (fun h => absurd h (by omega))
        have HI2 := Aside0.mk hI2
        clear hM1 hsn hS1 hK1 x0 x1 x2 x3 hrun hM2 hg2 hB1 hS2 hI2 q0
        go_region
        go_wp2_with fail
        go_roundw
        case rel => exact ⟨j + 1, _, by go_num, by omega, HI2⟩
        case measure => simp [intOf]; omega
      · obtain ⟨v0, v1, v2, v3, hsn, hsv⟩ := HI.out.sn
        have hS1 := al_old hsn (.cells #[.int .i64 xf, .int .i64 2, .int .i64 xn, .bool xs] 47)
        have hone : rs.length ≤ 1 := by
          rcases hl0 with h | h
          · exact h
          · have := h _ HX.out
            simp at this
        obtain ⟨rfl, rfl, rfl⟩ := hsv hlt
        have q0 : (wr.alloc (.cells #[.int .i64 xf, .int .i64 2, .int .i64 xn, .bool xs] 47)).cell? ⟨w.heap.size, 2, none⟩ = some (.bool false) := (blk_cell hS1 2).trans rfl
        have t6 : decide ((0 : Int) < 2) = true := rfl
        go_upto_region 10 with fail
        have hB1 := HI.out.be.alloc HI.out.be.size (.cells #[.int .i64 xf, .int .i64 2, .int .i64 xn, .bool xs] 47)
        have hM1 := HI.out.mp.alloc (.cells #[.int .i64 xf, .int .i64 2, .int .i64 xn, .bool xs] 47)
        have hK1 := al_new (W := wr) (o := .cells #[.int .i64 xf, .int .i64 2, .int .i64 xn, .bool xs] 47) rfl
        generalize wr.alloc (.cells #[.int .i64 xf, .int .i64 2, .int .i64 xn, .bool xs] 47) = W1 at *
        have c0 : W1.cell? ⟨wr.heap.size, 0, none⟩ = some (.int .i64 xf) := (blk_cell hK1 0).trans rfl
        have c1 : W1.cell? ⟨wr.heap.size, 1, none⟩ = some (.int .i64 2) := (blk_cell hK1 1).trans rfl
        obtain ⟨w2, hup, hM2, hg2⟩ := hM1.drew.update (int_keyed Try.underlying3) Try.underlying86 (by unfold maxLen; omega) (keyOf_int_mk Try.underlying3 (WalkArith.wf_i64 (n := xf) (by omega))) (plainElem_bool Try.underlying4 true)
        have hS2 := (hg2.block w.heap.size (blk_lt hS1) (by simp)).trans hS1
        have c2 : w2.cell? ⟨wr.heap.size, 1, none⟩ = some (.int .i64 2) := (blk_cell ((hg2.block wr.heap.size (blk_lt hK1) (by simp only [ne_eq, Option.some.injEq]; have := HI.out.mp.lt; omega)).trans hK1) 1).trans rfl
        have s0 := (blk_cell hS2 2)
        have s1 : w2.frozen? ⟨w.heap.size, 2, none⟩ = false := blk_frozen hS2 2
        replace s0 := s0.trans rfl
        have hI2 := PrI.step HI.out hlt HXE.out hB1 hg2 hM2 hS2 (i := 2) (by omega) (fun h => absurd h (by omega))
        have HI2 := Aside0.mk hI2
        clear hM1 hsn hS1 hK1 x0 x1 x2 x3 hrun hM2 hg2 hB1 hS2 hI2 q0
        go_region
        go_wp2_with fail
        go_roundw
        case rel => exact ⟨j + 1, _, by go_num, by omega, HI2⟩
        case measure => simp [intOf]; omega
      · obtain ⟨v0, v1, v2, v3, hsn, hsv⟩ := HI.out.sn
        have hS1 := al_old hsn (.cells #[.int .i64 xf, .int .i64 3, .int .i64 xn, .bool xs] 47)
        have hone : rs.length ≤ 1 := by
          rcases hl0 with h | h
          · exact h
          · have := h _ HX.out
            simp at this
        obtain ⟨rfl, rfl, rfl⟩ := hsv hlt
        have q0 : (wr.alloc (.cells #[.int .i64 xf, .int .i64 3, .int .i64 xn, .bool xs] 47)).cell? ⟨w.heap.size, 3, none⟩ = some (.bool false) := (blk_cell hS1 3).trans rfl
        have t6 : decide ((0 : Int) < 3) = true := rfl
        go_upto_region 10 with fail
        have hB1 := HI.out.be.alloc HI.out.be.size (.cells #[.int .i64 xf, .int .i64 3, .int .i64 xn, .bool xs] 47)
        have hM1 := HI.out.mp.alloc (.cells #[.int .i64 xf, .int .i64 3, .int .i64 xn, .bool xs] 47)
        have hK1 := al_new (W := wr) (o := .cells #[.int .i64 xf, .int .i64 3, .int .i64 xn, .bool xs] 47) rfl
        generalize wr.alloc (.cells #[.int .i64 xf, .int .i64 3, .int .i64 xn, .bool xs] 47) = W1 at *
        have c0 : W1.cell? ⟨wr.heap.size, 0, none⟩ = some (.int .i64 xf) := (blk_cell hK1 0).trans rfl
        have c1 : W1.cell? ⟨wr.heap.size, 1, none⟩ = some (.int .i64 3) := (blk_cell hK1 1).trans rfl
        obtain ⟨w2, hup, hM2, hg2⟩ := hM1.drew.update (int_keyed Try.underlying3) Try.underlying86 (by unfold maxLen; omega) (keyOf_int_mk Try.underlying3 (WalkArith.wf_i64 (n := xf) (by omega))) (plainElem_bool Try.underlying4 true)
        have hS2 := (hg2.block w.heap.size (blk_lt hS1) (by simp)).trans hS1
        have c2 : w2.cell? ⟨wr.heap.size, 1, none⟩ = some (.int .i64 3) := (blk_cell ((hg2.block wr.heap.size (blk_lt hK1) (by simp only [ne_eq, Option.some.injEq]; have := HI.out.mp.lt; omega)).trans hK1) 1).trans rfl
        have s0 := (blk_cell hS2 3)
        have s1 : w2.frozen? ⟨w.heap.size, 3, none⟩ = false := blk_frozen hS2 3
        replace s0 := s0.trans rfl
        have hI2 := PrI.step HI.out hlt HXE.out hB1 hg2 hM2 hS2 (i := 3) (by omega) (fun h => absurd h (by omega))
        have HI2 := Aside0.mk hI2
        clear hM1 hsn hS1 hK1 x0 x1 x2 x3 hrun hM2 hg2 hB1 hS2 hI2 q0
        go_region
        go_wp2_with fail
        go_roundw
        case rel => exact ⟨j + 1, _, by go_num, by omega, HI2⟩
        case measure => simp [intOf]; omega
    · obtain rfl : j = rs.length := by omega
      have t1 : decide (rs.length < rs.length) = false := decide_eq_false hlt
      go_wp2_with fail
      go_ret
      exact ⟨rfl, HI.out.be⟩
end Go.Proofs.Ytoikaegohkolkaa.Top
namespace Go.Proofs.Ytoikaegohkolkaa.Top
set_option linter.unusedSimpArgs false
set_option linter.unusedVariables false
open Go.RowKit Go.Proofs.YtoikaegohkolkaaW.PrintWords Go.Proofs.YtoikaegohkolkaaW.PrintLast Go.Proofs.YtoikaegohkolkaaW.PrintMore
/-- How many runs of a level. -/
def lvN (rs : List Rn) (lv : Nat) : Nat := (rs.filter fun x => x.l == (lv : Int)).length
/-- How many entries the last one of a level has. -/
def lvC : List Rn → Nat → Int → Int
  | [], _, c => c
  | x :: r, lv, c => lvC r lv (if x.l = (lv : Int) then x.n else c)
theorem lvC_app : ∀ (a : List Rn) (x : Rn) (lv : Nat) (c : Int), lvC (a ++ [x]) lv c = if x.l = (lv : Int) then x.n else lvC a lv c
  | [], x, lv, c => rfl
  | y :: a, x, lv, c => by
    show lvC (a ++ [x]) lv _ = _
    rw [lvC_app a x lv]
    rfl
theorem lvN_app (a : List Rn) (x : Rn) (lv : Nat) : lvN (a ++ [x]) lv = if x.l = (lv : Int) then lvN a lv + 1 else lvN a lv := by
  unfold lvN
  rw [List.filter_append, List.length_append]
  by_cases h : x.l = (lv : Int)
  · simp [h]
  · simp [h]
theorem lvN_le (a : List Rn) (lv : Nat) : lvN a lv ≤ a.length := List.length_filter_le _ _
theorem lvC_in : ∀ (a : List Rn) (lv : Nat) (c : Int), (0 ≤ c ∧ c < 1000000) → (∀ x ∈ a, 1 ≤ x.n ∧ x.n < 1000000) → 0 ≤ lvC a lv c ∧ lvC a lv c < 1000000
  | [], lv, c, h, _ => h
  | x :: r, lv, c, h, hr => by
    refine lvC_in r lv _ ?_ (fun y hy => hr y (List.mem_cons_of_mem _ hy))
    have := hr x (List.mem_cons_self ..)
    split <;> omega
def fullB (rs : List Rn) (lv : Nat) : Bool := if lv = 0 then decide (2 ≤ lvN rs 0) else decide (lv < 3) && decide (16 * 4 ^ lv < lvC rs lv 0)
set_option maxRecDepth 100000 in
theorem pfull_c {w : World} {R : Option Addr} {b c lv : Nat} {rs : List Rn} (hR : rs ≠ [] → R = some ⟨b, 0, none⟩) (h : RnRow w b rs) (hlen : rs.length ≤ 64) (hnp : ∀ x ∈ rs, 1 ≤ x.n ∧ x.n < 1000000) (hlv : lv < 4) :
    Calls Try.prog 16 #[.slice R rs.length c, .int .i64 lv] w fun e w' => e = .returned (.bool (fullB rs lv)) ∧ Below w.heap.size w w' := by
  have HR := Aside0.mk hR
  have H := Aside0.mk h
  have HNP := Aside0.mk hnp
  clear hR h hnp
  go_enter Try.func16, Try.ntmps16
  go_wp2_with fail
  go_loopw [5, 6, 11] (fun n q i wr => ∃ (j : Nat), i = .int .i64 j ∧ j ≤ rs.length ∧ n = .int .i64 (lvN (rs.take j) lv) ∧ q = .int .i64 (lvC (rs.take j) lv 0) ∧ Aside0 (Below w.heap.size w wr)) (fun _ _ i _ => rs.length - (intOf i).toNat)
  case atStart => exact ⟨0, rfl, by omega, rfl, rfl, ⟨Below.refl _ _⟩⟩
  case round =>
    obtain ⟨j, rfl, hj, rfl, rfl, HB⟩ := hrel
    by_cases hlt : j < rs.length
    · have t1 : decide (j < rs.length) = true := decide_eq_true hlt
      obtain rfl := HR.out (by intro e; rw [e] at hlt; simp at hlt)
      obtain ⟨x0, x1, x2, x3⟩ := (RnRow.below H.out HB.out).cells hlt
      have ha := lvN_app (rs.take j) rs[j] lv
      have hc := lvC_app (rs.take j) rs[j] lv 0
      rw [← List.take_succ_eq_append_getElem hlt] at ha hc
      have hle := lvN_le (rs.take j) lv
      have hb2 := lvC_in (rs.take j) lv 0 (by omega) (fun x hx => HNP.out x (List.mem_of_mem_take hx))
      rw [List.length_take] at hle
      generalize lvN (rs.take j) lv = nn at *
      generalize lvC (rs.take j) lv 0 = qq at *
      have HA := Aside0.mk ha
      have HC := Aside0.mk hc
      generalize rs[j] = x at *
      obtain ⟨xf, xl, xn, xs⟩ := x
      simp only at x0 x1 x2 x3
      clear ha hc
      have HBA := Aside0.mk (HB.out.alloc HB.out.size (.cells #[.int .i64 xf, .int .i64 xl, .int .i64 xn, .bool xs] 47))
      have hK1 := al_new (W := wr) (o := .cells #[.int .i64 xf, .int .i64 xl, .int .i64 xn, .bool xs] 47) rfl
      by_cases hx : xl = (lv : Int)
      · have e1 : (xl == (lv : Int)) = true := by simp [hx]
        have e2 : decide (xl = (lv : Int)) = true := by simp [hx]
        have HX := Aside0.mk hx
        clear hx
        rw [if_pos HX.out] at HA HC
        go_upto_region 6 with fail
        generalize wr.alloc (.cells #[.int .i64 xf, .int .i64 xl, .int .i64 xn, .bool xs] 47) = W1 at *
        have c2 : W1.cell? ⟨wr.heap.size, 2, none⟩ = some (.int .i64 xn) := (blk_cell hK1 2).trans rfl
        go_region
        go_wp2_with fail
        go_roundw
        case rel => exact ⟨j + 1, by go_num, by omega, by rw [HA.out]; go_num, by rw [HC.out], ⟨bdrew HBA.out⟩⟩
        case measure => simp [intOf]; omega
      · have e1 : (xl == (lv : Int)) = false := by simp [hx]
        have e2 : decide (xl = (lv : Int)) = false := by simp [hx]
        have HX := Aside0.mk hx
        clear hx
        rw [if_neg HX.out] at HA HC
        go_wp2_with fail
        go_roundw
        case rel => exact ⟨j + 1, by go_num, by omega, by rw [HA.out], by rw [HC.out], ⟨HBA.out⟩⟩
        case measure => simp [intOf]; omega
    · obtain rfl : j = rs.length := by omega
      have t1 : decide (rs.length < rs.length) = false := decide_eq_false hlt
      rw [List.take_length]
      have hle := lvN_le rs lv
      have hb2 := lvC_in rs lv 0 (by omega) HNP.out
      obtain rfl | rfl | rfl | rfl : lv = 0 ∨ lv = 1 ∨ lv = 2 ∨ lv = 3 := by omega
      · go_wp2_with fail
        go_ret
        exact ⟨by unfold fullB; first | (simp; done) | (simp; omega), HB.out⟩
      · go_wp2_with fail
        go_ret
        exact ⟨by unfold fullB; first | (simp; done) | (simp; omega), HB.out⟩
      · go_wp2_with fail
        go_ret
        exact ⟨by unfold fullB; first | (simp; done) | (simp; omega), HB.out⟩
      · go_wp2_with fail
        go_ret
        exact ⟨by unfold fullB; first | (simp; done) | (simp; omega), HB.out⟩
set_option maxRecDepth 100000 in
theorem len64_c {w : World} {n : Nat} (hn : n ≤ 12) : Calls Try.prog 67 #[.int .u64 n] w fun e w' => (∃ z : Int, e = .returned (.int .i64 z)) ∧ Below w.heap.size w w' := by
  have h : n = 0 ∨ n = 1 ∨ n = 2 ∨ n = 3 ∨ n = 4 ∨ n = 5 ∨ n = 6 ∨ n = 7 ∨ n = 8 ∨ n = 9 ∨ n = 10 ∨ n = 11 ∨ n = 12 := by omega
  rcases h with rfl | rfl | rfl | rfl | rfl | rfl | rfl | rfl | rfl | rfl | rfl | rfl | rfl
  all_goals
    go_enter Try.func67, Try.ntmps67
    go_wp2_with fail
    go_ret
    exact ⟨⟨_, rfl⟩, Below.refl _ _⟩
theorem len_c {w : World} {n : Nat} (hn : n ≤ 12) : Calls Try.prog 32 #[.int .u64 n] w fun e w' => (∃ z : Int, e = .returned (.int .i64 z)) ∧ Below w.heap.size w w' := by
  go_enter Try.func32, Try.ntmps32
  go_wp2_with (first | (go_at_call 67; refine (len64_c hn).mono ?_; rintro e w2 ⟨⟨z, rfl⟩, hb⟩) | fail)
  go_ret
  exact ⟨⟨_, rfl⟩, hb⟩
theorem nan_c {w : World} (x : Int) : Calls Try.prog 88 #[.int .i64 x] w fun e w' => e = .returned (.bool false) ∧ w' = w := by
  go_enter Try.func88, Try.ntmps88
  go_wp2_with fail
  go_ret
  exact ⟨by simp, rfl⟩
theorem cless_c {w : World} (x y : Int) : Calls Try.prog 63 #[.int .i64 x, .int .i64 y] w fun e w' => e = .returned (.bool (decide (x < y))) ∧ w' = w := by
  go_enter Try.func63, Try.ntmps63
  go_wp2_with (first | (go_at_call 88; refine (nan_c _).mono ?_; rintro e w2 ⟨rfl, rfl⟩) | fail)
  go_ret
  exact ⟨by simp, rfl⟩
/-- A row of numbers. -/
def ZRow (W : World) (b : Nat) (zs : List Int) : Prop := ∀ j (hj : j < zs.length), W.cell? ⟨b, j, none⟩ = some (.int .i64 zs[j])
theorem ZRow.below {W W1 : World} {b : Nat} {zs : List Int} (h : ZRow W b zs) (hb : Below W.heap.size W W1) : ZRow W1 b zs := fun j hj => cell_below hb (h j hj)
set_option maxRecDepth 100000 in
theorem insort_c {w : World} {b c : Nat} {R : Option Addr} {zs : List Int} (hR : zs ≠ [] → R = some ⟨b, 0, none⟩) (h : ZRow w b zs) (hs : zs.Pairwise (· < ·)) (hn : zs.length ≤ 12) :
    Calls Try.prog 57 #[.slice R zs.length c, .int .i64 0, .int .i64 zs.length] w fun e w' => e = .returned (.tuple #[]) ∧ Below w.heap.size w w' := by
  have HR := Aside0.mk hR
  have H := Aside0.mk h
  have HS := Aside0.mk hs
  clear hR h hs
  go_enter Try.func57, Try.ntmps57
  go_wp2_with fail
  go_loopw [6] (fun i wr => ∃ (j : Nat), i = .int .i64 (j + 1 : Nat) ∧ j ≤ zs.length ∧ Aside0 (Below w.heap.size w wr)) (fun i _ => zs.length + 1 - (intOf i).toNat)
  case atStart => exact ⟨0, rfl, by omega, ⟨Below.refl _ _⟩⟩
  case round =>
    obtain ⟨j, rfl, hj, HB⟩ := hrel
    by_cases hlt : j + 1 < zs.length
    · have t1 : decide (((j + 1 : Nat) : Int) < (zs.length : Int)) = true := decide_eq_true (by omega)
      have t2 : decide (j + 1 < zs.length) = true := decide_eq_true (by omega)
      obtain rfl := HR.out (by intro e; rw [e] at hlt; simp at hlt)
      have x1 := (H.out.below HB.out) (j + 1) hlt
      have x0 := (H.out.below HB.out) j (by omega)
      have hlt2 : zs[j]'(by omega) < zs[j + 1] := (List.pairwise_iff_getElem.1 HS.out) j (j + 1) (by omega) hlt (by omega)
      generalize zs[j]'(by omega) = y0 at *
      generalize zs[j + 1] = y1 at *
      have t3 : decide (y1 < y0) = false := decide_eq_false (by omega)
      have g1 : (j : Int) < (zs.length : Int) := by omega
      have g2 : ((j : Int) + 1) < (zs.length : Int) := by omega
      have e1 : IntKind.i64.wrap ((j : Int) + 1 - 1) = (j : Int) := by rw [IntKind.wrap_i64]; omega
      clear hlt2
      go_wp2_with fail
      go_loopw [7] (fun i wq => i = .int .i64 (j + 1 : Nat) ∧ Aside0 (Below w.heap.size w wq) ∧ wq.cell? ⟨b, j + 1, none⟩ = some (.int .i64 y1) ∧ wq.cell? ⟨b, j, none⟩ = some (.int .i64 y0)) (fun _ _ => 0)
      case atStart => exact ⟨rfl, HB, x1, x0⟩
      case round =>
        clear x0 x1 HB
        obtain ⟨rfl, HB, x1, x0⟩ := hrel
        go_wp2_with fail
        go_quiet (first | (go_at_call 63; refine Calls.quiet_of_same (cless_c _ _)))
        go_wp2_with fail
        go_roundw
        case rel => exact ⟨j + 1, by go_num, by omega, ⟨bdrewN HB.out⟩⟩
        case measure => simp [intOf]; omega
    · have t1 : decide (((j + 1 : Nat) : Int) < (zs.length : Int)) = false := decide_eq_false (by omega)
      have t2 : decide (j + 1 < zs.length) = false := decide_eq_false (by omega)
      go_wp2_with fail
      exact bodyPost_end (by kernel_rfl) rfl ⟨rfl, HB.out⟩
set_option maxRecDepth 100000 in
theorem pdq_c {w : World} {b c : Nat} {R : Option Addr} {zs : List Int} {z : Int} (hR : zs ≠ [] → R = some ⟨b, 0, none⟩) (h : ZRow w b zs) (hs : zs.Pairwise (· < ·)) (hn : zs.length ≤ 12) :
    Calls Try.prog 31 #[.slice R zs.length c, .int .i64 0, .int .i64 zs.length, .int .i64 z] w fun e w' => e = .returned (.tuple #[]) ∧ Below w.heap.size w w' := by
  have HI := Aside0.mk (insort_c (c := c) hR h hs hn)
  have e1 : IntKind.i64.wrap ((zs.length : Int) - 0) = (zs.length : Int) := by rw [IntKind.wrap_i64]; omega
  have t1 : decide ((zs.length : Int) ≤ 12) = true := decide_eq_true (by omega)
  have t2 : decide (zs.length ≤ 12) = true := decide_eq_true hn
  clear hR h hs
  go_enter Try.func31, Try.ntmps31
  go_wp2_with fail
  go_loopw [1, 2] (fun a e wr => a = .int .i64 0 ∧ e = .int .i64 zs.length ∧ wr = w) (fun _ _ _ => 0)
  case atStart => exact ⟨rfl, rfl, rfl⟩
  case round =>
    obtain ⟨rfl, rfl, rfl⟩ := hrel
    go_wp2_with (first | (go_at_call 57; refine HI.out.mono ?_; rintro e w2 ⟨rfl, hb⟩) | fail)
    exact bodyPost_ret (by kernel_rfl) rfl ⟨rfl, hb⟩
set_option maxRecDepth 100000 in
theorem sort_c {w : World} {b c : Nat} {R : Option Addr} {zs : List Int} (hR : zs ≠ [] → R = some ⟨b, 0, none⟩) (h : ZRow w b zs) (hs : zs.Pairwise (· < ·)) (hn : zs.length ≤ 12) :
    Calls Try.prog 17 #[.slice R zs.length c] w fun e w' => e = .returned (.tuple #[]) ∧ Below w.heap.size w w' := by
  have HR := Aside0.mk hR
  have H := Aside0.mk h
  have HS := Aside0.mk hs
  clear hR h hs
  go_enter Try.func17, Try.ntmps17
  go_wp2_with (first
    | (go_at_call 32; refine (len_c hn).mono ?_; rintro e w2 ⟨⟨z, rfl⟩, hb⟩)
    | (go_at_call 31; refine (pdq_c HR.out (H.out.below hb) HS.out hn).mono ?_; rintro e w3 ⟨rfl, hb3⟩)
    | fail)
  exact bodyPost_end (by kernel_rfl) rfl ⟨rfl, hb.trans (hb3.mono hb.size)⟩
end Go.Proofs.Ytoikaegohkolkaa.Top
