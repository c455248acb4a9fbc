/-
  What is known of one fact, of many; contracts of agg.One, agg.Right, agg.Many; conditions: those that each theorem states.
-/
import Derived.Test.YtkpkhggjhpikdaaAgg
import Derived.Deep.RegionWith
import Derived.Deep.CutBlock
namespace Go.Proofs.Ytkpkhggjhpikdaa.Top
set_option linter.unusedSimpArgs false
set_option linter.unusedVariables false
open Go.RowKit Go.Proofs.YtkpkhggjhpikdaaW.PrintWords Go.Proofs.YtkpkhggjhpikdaaW.PrintLast Go.Proofs.YtkpkhggjhpikdaaW.PrintMore
def oneF (v : Int) : Ag := ⟨1, false, v / 9223372036854775808, IntKind.u64.wrap v, v, v⟩
def zeroF : Ag := ⟨0, false, 0, 0, 0, 0⟩
def manyF (l : List Int) : Ag := l.foldl (fun a v => mergeF a (oneF v)) zeroF
/-- Of at most n facts. -/
structure Ag.few (a : Ag) (n : Nat) : Prop where
  c0 : 0 ≤ a.c
  c1 : a.c ≤ n
  o : a.o = false
  ok : a.ok
  mm : a.mn ≤ a.mx ∨ a.c = 0
theorem oneF_few (v : Int) (hv : -9223372036854775808 ≤ v ∧ v < 9223372036854775808) : (oneF v).few 1 :=
  ⟨by simp [oneF], by simp [oneF], rfl, ⟨by simp [oneF], by simp only [oneF]; omega, u64_rng _⟩, .inl (by simp [oneF])⟩
theorem zeroF_few : zeroF.few 0 := ⟨by simp [zeroF], by simp [zeroF], rfl, ⟨by simp [zeroF], by simp [zeroF], by simp [zeroF]⟩, .inr rfl⟩
theorem wrap64_rng (x : Int) : -9223372036854775808 ≤ wrap64 x ∧ wrap64 x < 9223372036854775808 := by unfold wrap64; omega
theorem merge_few {a : Ag} {n : Nat} (h : a.few n) (hn : n < 1000000) (v : Int) (hv : -9223372036854775808 ≤ v ∧ v < 9223372036854775808) : (mergeF a (oneF v)).few (n + 1) := by
  have h1 := oneF_few v hv
  unfold mergeF
  have hc := h.c0
  have hc1 := h.c1
  by_cases h0 : a.c = 0
  · rw [if_pos h0]
    exact ⟨h1.c0, by simp [oneF]; omega, h1.o, h1.ok, h1.mm⟩
  · rw [if_neg h0, if_neg (by simp [oneF])]
    have hw : IntKind.u64.wrap (a.c + (oneF v).c) = a.c + 1 := by
      rw [IntKind.wrap_u64]
      simp only [oneF]
      omega
    have ho : (a.o || (oneF v).o) = false := by rw [h.o]; rfl
    rw [hw, ho, if_neg (by simp; omega)]
    refine ⟨by simp only; omega, by simp only; omega, rfl, ⟨by simp only; omega, wrap64_rng _, ?_⟩, .inl ?_⟩
    · simp only [addLo]; omega
    · have hm := h.mm.resolve_right h0
      have e : (oneF v).mn = v ∧ (oneF v).mx = v := ⟨rfl, rfl⟩
      simp only [minF, maxF, e.1, e.2]
      split <;> split <;> omega
theorem one_c (v : Int) (w : World) : Calls Try.prog 10 #[.int .i64 v] w fun e w' => e = .returned (oneF v).v ∧ Below w.heap.size w w' :=
  Lib.agg_One.calls v 1 false (v / 9223372036854775808) (IntKind.u64.wrap v) v v w rfl
set_option maxHeartbeats 1000000 in
set_option maxRecDepth 100000 in
theorem right_c {a : Ag} {w : World} (h0 : a.c ≠ 0) (ho : a.o = false) (hm : a.mn ≤ a.mx) : Calls Try.prog 20 #[a.v] w fun e w' => e = .returned (.bool true) ∧ Below w.heap.size w w' := by
  obtain ⟨ac, ao, ah, al, an, ax⟩ := a
  simp only at h0 ho hm
  subst ho
  have h1 : (ac == 0) = false := beq_eq_false_iff_ne.2 h0
  have h2 : decide (an ≤ ax) = true := decide_eq_true hm
  have hB := (Below.refl w.heap.size w).alloc (Nat.le_refl _) (.cells #[.int .u64 ac, .bool false, .int .i64 ah, .int .u64 al, .int .i64 an, .int .i64 ax] 44)
  unfold Ag.v
  go_enter Try.func20, Try.ntmps20
  go_wp2
  go_ret
  exact ⟨rfl, hB⟩
/-- A row of numbers that can be read. -/
def RdI (w : World) (A : Option Addr) (l : List Int) : Prop := ∀ i, (h : i < l.length) → ∃ g o, A = some ⟨g, o, none⟩ ∧ g < w.heap.size ∧ w.cell? ⟨g, o + i, none⟩ = some (.int .i64 l[i])
/-- A block that holds what is known. -/
def AgAt (w : World) (g : Nat) (a : Ag) : Prop := w.heap[g]? = some (.cells #[.int .u64 a.c, .bool a.o, .int .i64 a.hi, .int .u64 a.lo, .int .i64 a.mn, .int .i64 a.mx] 44 (0, 0))
theorem AgAt.other {w : World} {g g' : Nat} {a : Ag} (h : AgAt w g a) (hne : g ≠ g') (v0 v1 v2 v3 v4 v5 : Value) : AgAt ((((((w.setCell ⟨g', 0, none⟩ v0).setCell ⟨g', 1, none⟩ v1).setCell ⟨g', 2, none⟩ v2).setCell ⟨g', 3, none⟩ v3).setCell ⟨g', 4, none⟩ v4).setCell ⟨g', 5, none⟩ v5) g a := by
  unfold AgAt at *
  rw [Below.heap_setCell _ _ _ _ hne, Below.heap_setCell _ _ _ _ hne, Below.heap_setCell _ _ _ _ hne, Below.heap_setCell _ _ _ _ hne, Below.heap_setCell _ _ _ _ hne, Below.heap_setCell _ _ _ _ hne]
  exact h
theorem AgAt.six {w : World} {g : Nat} {a : Ag} (h : AgAt w g a) (b : Ag) : AgAt ((((((w.setCell ⟨g, 0, none⟩ (.int .u64 b.c)).setCell ⟨g, 1, none⟩ (.bool b.o)).setCell ⟨g, 2, none⟩ (.int .i64 b.hi)).setCell ⟨g, 3, none⟩ (.int .u64 b.lo)).setCell ⟨g, 4, none⟩ (.int .i64 b.mn)).setCell ⟨g, 5, none⟩ (.int .i64 b.mx)) g b := blk_six h _ _ _ _ _ _
theorem manyF_take (l : List Int) (i : Nat) (h : i < l.length) : manyF (l.take (i + 1)) = mergeF (manyF (l.take i)) (oneF l[i]) := by
  unfold manyF
  rw [List.take_succ_eq_append_getElem h, List.foldl_append]
  rfl
theorem many_few (l : List Int) (hl : l.length < 1000000) (hv : ∀ v ∈ l, -9223372036854775808 ≤ v ∧ v < 9223372036854775808) : ∀ i, i ≤ l.length → (manyF (l.take i)).few i
  | 0, _ => zeroF_few
  | i + 1, h => by
    rw [manyF_take l i (by omega)]
    exact merge_few (many_few l hl hv i (by omega)) (by omega) _ (hv _ (List.getElem_mem _))
set_option maxHeartbeats 1000000 in
set_option maxRecDepth 100000 in
theorem many_c {w : World} {A : Option Addr} {c : Nat} {l : List Int} (hr : RdI w A l) (hl : l.length < 1000000) (hv : ∀ v ∈ l, -9223372036854775808 ≤ v ∧ v < 9223372036854775808) :
    Calls Try.prog 16 #[.slice A l.length c] w fun e w' => e = .returned (manyF l).v ∧ Below w.heap.size w w' := by
  have HR := Aside0.mk hr
  have HV := Aside0.mk hv
  have hB := ((Below.refl w.heap.size w).alloc (Nat.le_refl _) (.cells #[.int .u64 0, .bool false, .int .i64 0, .int .u64 0, .int .i64 0, .int .i64 0] 44)).alloc (by simp [World.size_alloc]) (.cells #[.int .u64 0, .bool false, .int .i64 0, .int .u64 0, .int .i64 0, .int .i64 0] 44)
  have hr1 : AgAt ((w.alloc (.cells #[.int .u64 0, .bool false, .int .i64 0, .int .u64 0, .int .i64 0, .int .i64 0] 44)).alloc (.cells #[.int .u64 0, .bool false, .int .i64 0, .int .u64 0, .int .i64 0, .int .i64 0] 44)) w.heap.size zeroF := al_old (al_new rfl) _
  have hr2 : AgAt ((w.alloc (.cells #[.int .u64 0, .bool false, .int .i64 0, .int .u64 0, .int .i64 0, .int .i64 0] 44)).alloc (.cells #[.int .u64 0, .bool false, .int .i64 0, .int .u64 0, .int .i64 0, .int .i64 0] 44)) (w.heap.size + 1) zeroF := al_new (by simp [World.size_alloc])
  clear hr hv
  go_enter Try.func16, Try.ntmps16
  go_wp2
  go_loopw [8] (fun i wr => ∃ j : Nat, j ≤ l.length ∧ i = .int .i64 j ∧ AgAt wr w.heap.size zeroF ∧ AgAt wr (w.heap.size + 1) (manyF (l.take j)) ∧ Below w.heap.size w wr) (fun i _ => l.length - (intOf i).toNat)
  case atStart => exact ⟨0, by omega, rfl, hr1, hr2, hB⟩
  case round =>
    clear hr1 hr2 hB
    obtain ⟨j, hj, rfl, hR1, hR2, hB⟩ := hrel
    by_cases hlt : j < l.length
    · obtain ⟨g, o, rfl, hg, hc⟩ := HR.out j hlt
      replace hc := (hB.cell (p := ⟨g, o + j, none⟩) hg).trans hc
      have hfew := many_few l hl HV.out j hj
      have hnew := manyF_take l j hlt
      generalize manyF (l.take j) = a at hR2 hfew hnew
      generalize hm' : manyF (l.take (j + 1)) = a' at hnew
      have HM' := Aside0.mk hm'
      clear hm'
      have HN := Aside0.mk hnew
      clear hnew
      have hv := HV.out l[j] (List.getElem_mem _)
      generalize l[j] = v at *
      obtain ⟨ac, ao, ah, al, an, ax⟩ := a
      obtain ⟨dc, d0, dh, dl, dn, dx⟩ := a'
      have hA : ∀ W : World, AgAt W (w.heap.size + 1) ⟨ac, ao, ah, al, an, ax⟩ → W.heap[w.heap.size + 1]? = some (.cells #[.int .u64 ac, .bool ao, .int .i64 ah, .int .u64 al, .int .i64 an, .int .i64 ax] 44 (0, 0)) := fun _ h => h
      have y0 : wr.cell? ⟨w.heap.size + 1, 0, none⟩ = some (.int .u64 ac) := (blk_cell hR2 0).trans rfl
      have y1 : wr.cell? ⟨w.heap.size + 1, 1, none⟩ = some (.bool ao) := (blk_cell hR2 1).trans rfl
      have y2 : wr.cell? ⟨w.heap.size + 1, 2, none⟩ = some (.int .i64 ah) := (blk_cell hR2 2).trans rfl
      have y3 : wr.cell? ⟨w.heap.size + 1, 3, none⟩ = some (.int .u64 al) := (blk_cell hR2 3).trans rfl
      have y4 : wr.cell? ⟨w.heap.size + 1, 4, none⟩ = some (.int .i64 an) := (blk_cell hR2 4).trans rfl
      have y5 : wr.cell? ⟨w.heap.size + 1, 5, none⟩ = some (.int .i64 ax) := (blk_cell hR2 5).trans rfl
      go_wp2_with fail
      go_region_with (first | (go_at_call 10; refine (one_c v _).mono ?_; rintro e w3 ⟨rfl, hb3⟩; have hR3 : AgAt w3 (w.heap.size + 1) ⟨ac, ao, ah, al, an, ax⟩ := (hb3.block _ (blk_lt hR2)).trans hR2; have hB3 := (below_drew hB).trans (hb3.mono hB.size); have z0 : w3.cell? ⟨w.heap.size + 1, 0, none⟩ = some (.int .u64 ac) := (blk_cell hR3 0).trans rfl; have z1 : w3.cell? ⟨w.heap.size + 1, 1, none⟩ = some (.bool ao) := (blk_cell hR3 1).trans rfl; have z2 : w3.cell? ⟨w.heap.size + 1, 2, none⟩ = some (.int .i64 ah) := (blk_cell hR3 2).trans rfl; have z3 : w3.cell? ⟨w.heap.size + 1, 3, none⟩ = some (.int .u64 al) := (blk_cell hR3 3).trans rfl; have z4 : w3.cell? ⟨w.heap.size + 1, 4, none⟩ = some (.int .i64 an) := (blk_cell hR3 4).trans rfl; have z5 : w3.cell? ⟨w.heap.size + 1, 5, none⟩ = some (.int .i64 ax) := (blk_cell hR3 5).trans rfl) | (go_at_call 23; refine (merge_c (a := ⟨ac, ao, ah, al, an, ax⟩) (b := oneF v) hfew.ok (oneF_few v hv).ok hfew.o).mono ?_; rintro e w4 ⟨rfl, hb4⟩; have hR4 : AgAt w4 (w.heap.size + 1) ⟨ac, ao, ah, al, an, ax⟩ := (hb4.block _ (blk_lt hR3)).trans hR3; have hR5 : AgAt w4 w.heap.size zeroF := (hb4.block _ (Nat.lt_of_lt_of_le (blk_lt hR1) hb3.size)).trans ((hb3.block _ (blk_lt hR1)).trans hR1); have hB4 := hB3.trans (hb4.mono hB3.size); rw [← HN.out]; dsimp only [Ag.v]; have x0 : w4.cell? ⟨w.heap.size + 1, 0, none⟩ = some (.int .u64 ac) := (blk_cell hR4 0).trans rfl; have x1 : w4.cell? ⟨w.heap.size + 1, 1, none⟩ = some (.bool ao) := (blk_cell hR4 1).trans rfl; have x2 : w4.cell? ⟨w.heap.size + 1, 2, none⟩ = some (.int .i64 ah) := (blk_cell hR4 2).trans rfl; have x3 : w4.cell? ⟨w.heap.size + 1, 3, none⟩ = some (.int .u64 al) := (blk_cell hR4 3).trans rfl; have x4 : w4.cell? ⟨w.heap.size + 1, 4, none⟩ = some (.int .i64 an) := (blk_cell hR4 4).trans rfl; have x5 : w4.cell? ⟨w.heap.size + 1, 5, none⟩ = some (.int .i64 ax) := (blk_cell hR4 5).trans rfl; have f0 := blk_frozen hR4 0; have f1 := blk_frozen hR4 1; have f2 := blk_frozen hR4 2; have f3 := blk_frozen hR4 3; have f4 := blk_frozen hR4 4; have f5 := blk_frozen hR4 5))
      all_goals
        have hR6 := AgAt.six hR4 ⟨dc, d0, dh, dl, dn, dx⟩
        have hR7 := AgAt.other hR5 (g' := w.heap.size + 1) (by omega) (.int .u64 dc) (.bool d0) (.int .i64 dh) (.int .u64 dl) (.int .i64 dn) (.int .i64 dx)
        have hB7 := below_six hB4 (g := w.heap.size + 1) (by omega) (.int .u64 dc) (.bool d0) (.int .i64 dh) (.int .u64 dl) (.int .i64 dn) (.int .i64 dx)
        go_wp2
        go_roundw
        case rel => exact ⟨j + 1, by omega, by go_num, hR7, (by rw [HM'.out]; exact hR6), hB7⟩
        case measure => simp [intOf]; omega
    · rw [List.take_of_length_le (by omega)] at hR2
      generalize hm : manyF l = m at hR2
      have HM := Aside0.mk hm
      clear hm
      obtain ⟨ac, ao, ah, al, an, ax⟩ := m
      have y0 : wr.cell? ⟨w.heap.size + 1, 0, none⟩ = some (.int .u64 ac) := (blk_cell hR2 0).trans rfl
      have y1 : wr.cell? ⟨w.heap.size + 1, 1, none⟩ = some (.bool ao) := (blk_cell hR2 1).trans rfl
      have y2 : wr.cell? ⟨w.heap.size + 1, 2, none⟩ = some (.int .i64 ah) := (blk_cell hR2 2).trans rfl
      have y3 : wr.cell? ⟨w.heap.size + 1, 3, none⟩ = some (.int .u64 al) := (blk_cell hR2 3).trans rfl
      have y4 : wr.cell? ⟨w.heap.size + 1, 4, none⟩ = some (.int .i64 an) := (blk_cell hR2 4).trans rfl
      have y5 : wr.cell? ⟨w.heap.size + 1, 5, none⟩ = some (.int .i64 ax) := (blk_cell hR2 5).trans rfl
      have z0 : wr.cell? ⟨w.heap.size, 0, none⟩ = some (.int .u64 0) := (blk_cell hR1 0).trans rfl
      have z1 : wr.cell? ⟨w.heap.size, 1, none⟩ = some (.bool false) := (blk_cell hR1 1).trans rfl
      have z2 : wr.cell? ⟨w.heap.size, 2, none⟩ = some (.int .i64 0) := (blk_cell hR1 2).trans rfl
      have z3 : wr.cell? ⟨w.heap.size, 3, none⟩ = some (.int .u64 0) := (blk_cell hR1 3).trans rfl
      have z4 : wr.cell? ⟨w.heap.size, 4, none⟩ = some (.int .i64 0) := (blk_cell hR1 4).trans rfl
      have z5 : wr.cell? ⟨w.heap.size, 5, none⟩ = some (.int .i64 0) := (blk_cell hR1 5).trans rfl
      have f0 := blk_frozen hR1 0
      have f1 := blk_frozen hR1 1
      have f2 := blk_frozen hR1 2
      have f3 := blk_frozen hR1 3
      have f4 := blk_frozen hR1 4
      have f5 := blk_frozen hR1 5
      go_wp2
      refine bodyPost_ret (results_cell_row rfl _ _ w.heap.size 44 #[.int .u64 ac, .bool ao, .int .i64 ah, .int .u64 al, .int .i64 an, .int .i64 ax] (0, 0) _ rfl (blk_six hR1 _ _ _ _ _ _) Try.underlying44 rfl (by kernel_rfl)) rfl ?_
      exact ⟨by rw [HM.out]; rfl, below_six hB (Nat.le_refl _) _ _ _ _ _ _⟩
end Go.Proofs.Ytkpkhggjhpikdaa.Top
