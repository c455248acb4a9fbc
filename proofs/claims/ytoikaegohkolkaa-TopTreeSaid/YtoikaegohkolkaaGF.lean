/-
  Runs copied, found, struck: slices.Clone, IndexFunc, ContainsFunc, Delete at runs; conditions: those that each theorem states.
-/
import Derived.Test.YtoikaegohkolkaaYOffer
import Derived.Lib.SliceRun
import Derived.Deep.RegionLaw
namespace Go.Proofs.Ytoikaegohkolkaa.Top
set_option linter.unusedSimpArgs false
set_option linter.unusedVariables false
open Go.RowKit Go.Proofs.YtoikaegohkolkaaW.PrintWords Go.Proofs.YtoikaegohkolkaaW.PrintLast Go.Proofs.YtoikaegohkolkaaW.PrintMore
theorem info_run : (Try.prog.info? 47).map (fun i => (i.zero, i.size, i.bytes)) = some (some (.agg #[.int .i64 0, .int .i64 0, .int .i64 0, .bool false]), 4, 32) := by kernel_rfl
theorem rflat_get : ∀ (rs : List Rn) (i m : Nat) (hi : i < rs.length), m < 4 → (rs.flatMap Rn.cells)[i * 4 + m]? = rs[i].cells[m]?
  | x :: r, 0, m, _, hm => by
    rw [List.flatMap_cons, List.getElem?_append_left (by simp [Rn.cells]; omega), Nat.zero_mul, Nat.zero_add]
    rfl
  | x :: r, i + 1, m, hi, hm => by
    rw [List.flatMap_cons, List.getElem?_append_right (by simp [Rn.cells]; omega)]
    have : (i + 1) * 4 + m - x.cells.length = i * 4 + m := by simp [Rn.cells]; omega
    rw [this, rflat_get r i m (by simpa using hi) hm]
    rfl
theorem rflat_len (rs : List Rn) : (rs.flatMap Rn.cells).length = rs.length * 4 := by
  induction rs with
  | nil => rfl
  | cons x r ih => rw [List.flatMap_cons, List.length_append, ih]; simp [Rn.cells]; omega
theorem rflat_at {rs : List Rn} {t : Nat} {u : Value} (h : (rs.flatMap Rn.cells)[t]? = some u) : ∃ j m, ∃ hj : j < rs.length, t = j * 4 + m ∧ m < 4 ∧ rs[j].cells[m]? = some u := by
  have ht := (List.getElem?_eq_some_iff.1 h).1
  rw [rflat_len] at ht
  refine ⟨t / 4, t % 4, by omega, by omega, by omega, ?_⟩
  rw [← rflat_get rs (t / 4) (t % 4) (by omega) (by omega), show t / 4 * 4 + t % 4 = t by omega]
  exact h
theorem rflat_one (rs : List Rn) : ∀ u ∈ rs.flatMap Rn.cells, u.oneCell' = true := fun u hu => by
  obtain ⟨x, _, hx⟩ := List.mem_flatMap.1 hu
  simp only [Rn.cells, List.mem_cons, List.not_mem_nil, or_false] at hx
  rcases hx with rfl | rfl | rfl | rfl <;> rfl
theorem slice_eqR (w : World) (a : Addr) (n c : Nat) : (binOp .eql 27 (.slice (some a) n c) (.slice none 0 0)).run Try.prog w = .ok (.bool false) w := run_eql_slice_nil w _ _ (some a) n c Try.underlying27
/-- A row of runs of the call's own, with its room. -/
structure RSp (W : World) (g cp : Nat) (rs : List Rn) : Prop where
  bl : ∃ cur, W.heap[g]? = some (.cells cur 47 (0, 0)) ∧ cur.size = cp * 4
  row : RnRow W g rs
  le : rs.length ≤ cp
  mx : cp ≤ maxLen
theorem RSp.below {W W1 : World} {g cp : Nat} {rs : List Rn} (h : RSp W g cp rs) (hb : Below W.heap.size W W1) : RSp W1 g cp rs := by
  obtain ⟨cur, h1, h2⟩ := h.bl
  exact ⟨⟨cur, (hb.block _ (blk_lt h1)).trans h1, h2⟩, h.row.below hb, h.le, h.mx⟩
theorem rsp_own {W : World} {base n : Nat} {v : Value} {rs : List Rn} (h : W.ownsRow base 47 4 v n (rs.flatMap Rn.cells)) (hn : n = rs.length) (h0 : 0 < n) : ∃ g cp, v = .slice (some ⟨g, 0, none⟩) rs.length cp ∧ base ≤ g ∧ RSp W g cp rs := by
  subst hn
  obtain ⟨g, cp, cur, rfl, hb, hc, hle, hm, hs, ht⟩ := own_pos h h0
  refine ⟨g, cp, rfl, hb, ⟨cur, hc, hs⟩, fun j hj m u hu => ?_, hle, hm⟩
  have hm4 : m < 4 := by have := (List.getElem?_eq_some_iff.1 hu).1; simpa [Rn.cells] using this
  have h1 : (cur.toList.take (rs.length * 4))[j * 4 + m]? = some u := by rw [ht, rflat_get rs j m hj hm4]; exact hu
  rw [List.getElem?_take_of_lt (by omega), Array.getElem?_toList] at h1
  exact (blk_cell hc _).trans h1
set_option maxRecDepth 100000 in
theorem rclone_c {w : World} {b c : Nat} {rs : List Rn} (h : RnRow w b rs) (h0 : 0 < rs.length) (h1 : rs.length ≤ 64) :
    Calls Try.prog 33 #[.slice (some ⟨b, 0, none⟩) rs.length c] w fun e w' => ∃ g cp, e = .returned (.slice (some ⟨g, 0, none⟩) rs.length cp) ∧ w.heap.size ≤ g ∧ RSp w' g cp rs ∧ Below w.heap.size w w' := by
  have hq := slice_eqR w ⟨b, 0, none⟩ rs.length c
  go_enter Try.func33, Try.ntmps33
  obtain ⟨i0, hi, hzz⟩ := Option.map_eq_some_iff.1 info_run
  simp only [Prod.mk.injEq] at hzz
  obtain ⟨hz0, hz1, hz2⟩ := hzz
  have hold : (w.alloc (.cells #[] 47)).ownsRow w.heap.size 47 4 (.slice (some ⟨w.heap.size, 0, none⟩) 0 0) 0 [] := ⟨rfl, .inr ⟨_, 0, #[], rfl, Nat.le_refl _, heap_alloc_new _ _, Nat.le_refl _, by simp [maxLen], rfl, rfl⟩⟩
  have hnews : ∀ j u, (rs.flatMap Rn.cells)[j]? = some u → (w.alloc (.cells #[] 47)).cell? ((⟨b, 0, none⟩ : Addr).add j) = some u := fun j u hu => by
    obtain ⟨i, m, hj, rfl, hm, hx⟩ := rflat_at hu
    have := cell_below ((Below.refl _ w).alloc (Nat.le_refl _) (.cells #[] 47)) (h i hj m u hx)
    rw [Addr.add_lit, Nat.zero_add]
    exact this
  go_wp2_with (at_builtin; refine wpList_append_own_at _ rfl (.tmp 5) (.tmp 6) 27 rfl w.heap.size 47 i0 _ 4 32 Try.underlying27 hi hz0 hz1 hz2 rfl (by decide) (.slice (some ⟨w.heap.size, 0, none⟩) 0 0) 0 [] rfl hold ⟨b, 0, none⟩ rs.length c (rs.flatMap Rn.cells) rfl (rflat_len _) hnews (rflat_one _) (by simp only [maxLen]; omega) (by omega) (by simp [World.size_alloc]) ?_; intro v1 w1 hown hg hn hat)
  go_ret
  rw [Nat.zero_add, List.nil_append] at hown
  obtain ⟨g, cp, rfl, hgb, hr⟩ := rsp_own hown rfl h0
  exact ⟨g, cp, rfl, hgb, hr, ((Below.refl _ w).alloc (Nat.le_refl _) _).grown hg (by simp [World.size_alloc]) (fun b hb => by simp [Value.ownBlock] at hb; exact Nat.le_of_eq hb)⟩
/-- The closure that tells whether a run is of a file. -/
theorem isfile_c {w : World} {x : Rn} {k : Nat} {z : Int} (hk : w.cell? ⟨k, 0, none⟩ = some (.int .i64 z)) :
    Calls Try.prog 35 #[.agg #[.int .i64 x.f, .int .i64 x.l, .int .i64 x.n, .bool x.s], .pointer (some ⟨k, 0, none⟩)] w fun e w' => e = .returned (.bool (x.f == z)) ∧ Below w.heap.size w w' := by
  have hk2 := cell_below ((Below.refl _ w).alloc (Nat.le_refl _) (.cells #[.int .i64 x.f, .int .i64 x.l, .int .i64 x.n, .bool x.s] 47)) hk
  have hB := (Below.refl _ w).alloc (Nat.le_refl _) (.cells #[.int .i64 x.f, .int .i64 x.l, .int .i64 x.n, .bool x.s] 47)
  go_enter Try.func35, Try.ntmps35
  go_wp2_with fail
  go_ret
  exact ⟨rfl, hB⟩
/-- The first one is it. -/
theorem rindex_hit {w : World} {g c k : Nat} {x : Rn} {r : List Rn} {z : Int} (h : RnRow w g (x :: r)) (hl : r.length ≤ 64) (hk : w.cell? ⟨k, 0, none⟩ = some (.int .i64 z)) (hz : x.f = z) :
    Calls Try.prog 34 #[.slice (some ⟨g, 0, none⟩) (r.length + 1) c, .func (.func 35) #[] #[.pointer (some ⟨k, 0, none⟩)]] w fun e w' => e = .returned (.int .i64 0) ∧ Below w.heap.size w w' := by
  obtain ⟨x0, x1, x2, x3⟩ := h.cells (j := 0) (by simp)
  simp only [Nat.zero_mul, Nat.zero_add, List.getElem_cons_zero] at x0 x1 x2 x3
  have hc := isfile_c (x := x) hk
  rw [hz, beq_self_eq_true] at hc
  rw [← hz] at hc
  have HC := Aside0.mk hc
  clear h hc hk hz
  obtain ⟨xf, xl, xn, xs⟩ := x
  simp only at x0 x1 x2 x3 HC
  have t1 : decide ((0 : Int) < (r.length : Int) + 1) = true := decide_eq_true (by omega)
  go_enter Try.func34, Try.ntmps34
  go_wp2_with fail
  go_loopw [8] (fun i wr => i = .int .i64 0 ∧ wr = w) (fun _ _ => 0)
  case atStart => exact ⟨rfl, rfl⟩
  case round =>
    obtain ⟨rfl, rfl⟩ := hrel
    go_wp2_with (first | (refine HC.out.mono ?_; rintro e w2 ⟨rfl, hb2⟩) | fail)
    go_ret
    exact ⟨rfl, hb2⟩
/-- Of none: none. -/
theorem rindex_none {w : World} {R : Option Addr} {c : Nat} {F : Value} : Calls Try.prog 34 #[.slice R 0 c, F] w fun e w' => e = .returned (.int .i64 (-1)) ∧ Below w.heap.size w w' := by
  go_enter Try.func34, Try.ntmps34
  go_wp2_with fail
  go_loopw [8] (fun i wr => i = .int .i64 0 ∧ wr = w) (fun _ _ => 0)
  case atStart => exact ⟨rfl, rfl⟩
  case round =>
    obtain ⟨rfl, rfl⟩ := hrel
    go_wp2_with fail
    go_ret
    exact ⟨rfl, Below.refl _ _⟩
theorem rcont_none {w : World} {R : Option Addr} {c : Nat} {F : Value} : Calls Try.prog 37 #[.slice R 0 c, F] w fun e w' => e = .returned (.bool false) ∧ Below w.heap.size w w' := by
  go_enter Try.func37, Try.ntmps37
  go_wp2_with (first | (go_at_call 34; refine rindex_none.mono ?_; rintro e w2 ⟨rfl, hb2⟩) | fail)
  go_ret
  exact ⟨by simp, hb2⟩
/-! ### striking the first one -/
def setAll (cur : Array Value) : Nat → List Value → Array Value
  | _, [] => cur
  | o, v :: vs => setAll (cur.setIfInBounds o v) (o + 1) vs
theorem setAll_size : ∀ (vs : List Value) (cur : Array Value) (o : Nat), (setAll cur o vs).size = cur.size
  | [], _, _ => rfl
  | v :: vs, cur, o => by
    unfold setAll
    rw [setAll_size vs]
    simp
theorem blk_puts {g : Nat} {e : TypeId} : ∀ (vs : List Value) (o : Nat) (W : World) (cur : Array Value), W.heap[g]? = some (.cells cur e (0, 0)) → o + vs.length ≤ cur.size → (W.setCells g o vs).heap[g]? = some (.cells (setAll cur o vs) e (0, 0))
  | [], _, _, _, h, _ => h
  | v :: vs, o, W, cur, h, hl => by
    simp only [List.length_cons] at hl
    have h1 := blk_put h o v rfl
    exact blk_puts vs (o + 1) _ _ h1 (by simp; omega)
theorem below_puts {n g : Nat} {w : World} : ∀ (vs : List Value) (o : Nat) (W : World), Below n w W → n ≤ g → Below n w (W.setCells g o vs)
  | [], _, _, h, _ => h
  | v :: vs, o, W, h, hg => below_puts vs (o + 1) _ (h.setCell (p := ⟨g, o, none⟩) hg v) hg
theorem clear_run {W : World} {g o c ty : Nat} {cur : Array Value} {e : TypeId} (h : W.heap[g]? = some (.cells cur e (0, 0))) (ho : o + 4 ≤ cur.size) :
    (Builtin.clear_ #[27] ty #[.slice (some ⟨g, o, none⟩) 1 c]).run Try.prog W = .ok (.tuple #[]) (W.setCells g o [.int .i64 0, .int .i64 0, .int .i64 0, .bool false]) := by
  have hz : (zeroValue 47).run Try.prog W = .ok (.agg #[.int .i64 0, .int .i64 0, .int .i64 0, .bool false]) W := by kernel_rfl
  have hst := run_storeCells_cells (P := Try.prog) g o [.int .i64 0, .int .i64 0, .int .i64 0, .bool false] 0 W (fun j hj => by
    rw [blk_cell h]
    have : o + 0 + j < cur.size := by simp at hj; omega
    rw [Array.getElem?_eq_getElem this]
    rfl) (fun j hj => blk_frozen h _) (fun v hv => by
    simp only [List.mem_cons, List.not_mem_nil, or_false] at hv
    rcases hv with rfl | rfl | rfl | rfl <;> rfl)
  simp only [Nat.add_zero] at hst
  have hzc : (Builtin.zeroCells (Value.agg #[.int .i64 0, .int .i64 0, .int .i64 0, .bool false]).cells 1).toList = [.int .i64 0, .int .i64 0, .int .i64 0, .bool false] := by kernel_rfl
  simp [Builtin.clear_, run_underlying Try.underlying27, hz, hzc, hst]
theorem rsp_end {W1 : World} {g cp : Nat} {cur : Array Value} {r : List Rn} {vs : List Value} (hb : W1.heap[g]? = some (.cells cur 47 (0, 0))) (hs : cur.size = cp * 4) (hr : RnRow W1 g r) (hle : r.length * 4 + vs.length ≤ cp * 4) (hm : cp ≤ maxLen) : RSp (W1.setCells g (r.length * 4) vs) g cp r := by
  refine ⟨⟨_, blk_puts vs _ _ _ hb (by omega), by rw [setAll_size]; exact hs⟩, fun j hj m u hu => ?_, by omega, hm⟩
  have hm4 : m < 4 := by have := (List.getElem?_eq_some_iff.1 hu).1; simpa [Rn.cells] using this
  rw [World.cell?_setCells_out g vs (r.length * 4) W1 ⟨g, j * 4 + m, none⟩ (fun _ _ => .inl (by simp only; omega))]
  exact hr j hj m u hu
set_option maxRecDepth 100000 in
theorem rdelete_c {w : World} {g cp : Nat} {x : Rn} {r : List Rn} (h : RSp w g cp (x :: r)) :
    Calls Try.prog 36 #[.slice (some ⟨g, 0, none⟩) (r.length + 1) cp, .int .i64 0, .int .i64 1] w fun e w' => e = .returned (.slice (some ⟨g, 0, none⟩) r.length cp) ∧ RSp w' g cp r ∧ Below g w w' := by
  obtain ⟨cur, hbl, hsz⟩ := h.bl
  have hle : r.length + 1 ≤ cp := h.le
  have hmx := h.mx
  unfold maxLen at hmx
  have hsrc : ∀ t u, (r.flatMap Rn.cells)[t]? = some u → w.drew.cell? ⟨g, 4 + t, none⟩ = some u := fun t u hu => by
    obtain ⟨i, m, hj, rfl, hm, hx⟩ := rflat_at hu
    have := h.row (i + 1) (by simpa using hj) m u (by simpa using hx)
    rw [show 4 + (i * 4 + m) = (i + 1) * 4 + m by omega]
    exact this
  have g1 : (1 : Int) ≤ (r.length : Int) + 1 := by omega
  have g2 : (r.length : Int) + 1 ≤ (cp : Int) := by omega
  have HS := Aside0.mk hsrc
  have HB := Aside0.mk hbl
  have H := Aside0.mk h
  clear hsrc hbl h
  go_enter Try.func36, Try.ntmps36
  go_upto_region 5 with fail
  obtain ⟨i0, hi, hzz⟩ := Option.map_eq_some_iff.1 info_run
  simp only [Prod.mk.injEq] at hzz
  obtain ⟨hz0, hz1, hz2⟩ := hzz
  have hd : w.drew.heap[g]? = some (.cells cur 47 (0, 0)) := HB.out
  have hb1 := blk_puts (r.flatMap Rn.cells) 0 w.drew cur hd (by rw [rflat_len]; omega)
  have hs1 := setAll_size (r.flatMap Rn.cells) cur 0
  have hB1 := below_puts (n := g) (r.flatMap Rn.cells) 0 w.drew (below_drew (Below.refl g w)) (Nat.le_refl _)
  have hr1 : RnRow (w.drew.setCells g 0 (r.flatMap Rn.cells)) g r := fun j hj m u hu => by
    have hm4 : m < 4 := by have := (List.getElem?_eq_some_iff.1 hu).1; simpa [Rn.cells] using this
    have := World.cell?_setCells_in g (r.flatMap Rn.cells) 0 w.drew (fun t ht => by
      rw [rflat_len] at ht
      rw [blk_cell hd, Array.getElem?_eq_getElem (by omega)]
      rfl) (j * 4 + m) (by rw [rflat_len]; omega)
    rw [Nat.zero_add] at this
    rw [this, ← hu, ← rflat_get r j m hj hm4]
    exact (List.getElem?_eq_getElem (by rw [rflat_len]; omega)).symm
  have HB1 := Aside0.mk hb1
  have HS1 := Aside0.mk hs1
  have HBe := Aside0.mk hB1
  have HR1 := Aside0.mk hr1
  have hsp : ∀ j, j < (r.flatMap Rn.cells).length → (w.drew.cell? ⟨g, 0 + 0 * 4 + j, none⟩).isSome = true ∧ w.drew.frozen? ⟨g, 0 + 0 * 4 + j, none⟩ = false := fun j hj => by
    rw [rflat_len] at hj
    refine ⟨?_, blk_frozen hd _⟩
    rw [blk_cell hd, Array.getElem?_eq_getElem (by omega)]
    rfl
  have HSP := Aside0.mk hsp
  clear hsp hd hb1 hs1 hB1 hr1
  have hcl : ∀ (W : World) ty c, W.heap[g]? = some (.cells (setAll cur 0 (r.flatMap Rn.cells)) 47 (0, 0)) → (Builtin.clear_ #[27] ty #[.slice (some ⟨g, r.length * 4, none⟩) 1 c]).run Try.prog W = .ok (.tuple #[]) (W.setCells g (r.length * 4) [.int .i64 0, .int .i64 0, .int .i64 0, .bool false]) := fun W ty c h => clear_run h (by rw [HS1.out]; omega)
  have HCL := Aside0.mk hcl
  clear hcl
  by_cases hc1 : cp = 1
  · have hr0 : r = [] := List.length_eq_zero_iff.1 (by omega)
    subst hr0
    subst hc1
    go_region_law (refine step_append_room rfl (.tmp 22) (.tmp 25) 27 rfl 47 i0 4 Try.underlying27 hi hz1 g 0 0 1 (by simp [Act.eval, Act.put]) ⟨g, 0, none⟩ 0 0 ([].flatMap Rn.cells) (by simp [Act.eval, Act.put]) rfl (fun t u hu => by simp at hu) (rflat_one []) (by omega) HSP.out ?_)
    have hcl : ∀ (ty c : Nat), (Builtin.clear_ #[27] ty #[.slice (some ⟨g, 0, none⟩) 1 c]).run Try.prog (w.drew.setCells g 0 []) = .ok (.tuple #[]) ((w.drew.setCells g 0 []).setCells g 0 [.int .i64 0, .int .i64 0, .int .i64 0, .bool false]) := fun ty c => HCL.out _ ty c HB1.out
    have hb1 : (w.drew.setCells g 0 []).heap[g]? = some (.cells (setAll cur 0 (([] : List Rn).flatMap Rn.cells)) 47 (0, 0)) := HB1.out
    have hbe : Below g w (w.drew.setCells g 0 []) := HBe.out
    have hr1 : RnRow (w.drew.setCells g 0 []) g [] := HR1.out
    have HB1' := Aside0.mk hb1
    have HBe' := Aside0.mk hbe
    have HR1' := Aside0.mk hr1
    clear hb1 hbe hr1 HB1 HBe HR1
    generalize w.drew.setCells g 0 [] = W1 at *
    go_wp2_with fail
    go_ret
    exact ⟨rfl, rsp_end (r := []) HB1'.out (by rw [HS1.out]; exact hsz) HR1'.out (by simp) H.out.mx, below_puts _ _ _ HBe'.out (Nat.le_refl _)⟩
  · go_region_law (refine step_append_room rfl (.tmp 22) (.tmp 25) 27 rfl 47 i0 4 Try.underlying27 hi hz1 g 0 0 cp (by simp [Act.eval, Act.put]) ⟨g, 4, none⟩ r.length (cp - 1) (r.flatMap Rn.cells) (by simp [Act.eval, Act.put, hc1]) (rflat_len r) (fun t u hu => by rw [Addr.add_lit]; exact HS.out t u hu) (rflat_one r) (by omega) HSP.out ?_)
    have hcl := fun ty c => HCL.out _ ty c HB1.out
    generalize w.drew.setCells g 0 (r.flatMap Rn.cells) = W1 at *
    have g3 : (r.length : Int) ≤ (r.length : Int) + 1 := by omega
    go_wp2_with fail
    go_ret
    exact ⟨rfl, rsp_end HB1.out (by rw [HS1.out]; exact hsz) HR1.out (by simp; omega) H.out.mx, below_puts _ _ _ HBe.out (Nat.le_refl _)⟩
/-- What is left of a count behind some runs. -/
def leftN (c : Int) : List Rn → Int
  | [] => c
  | x :: r => leftN (c - min c x.n) r
theorem leftN_app : ∀ (a : List Rn) (x : Rn) (c : Int), leftN c (a ++ [x]) = leftN c a - min (leftN c a) x.n
  | [], x, c => rfl
  | y :: a, x, c => leftN_app a x (c - min c y.n)
theorem leftN_in : ∀ (a : List Rn) (c : Int), (0 ≤ c ∧ c < 1000000) → (∀ x ∈ a, 1 ≤ x.n ∧ x.n < 1000000) → 0 ≤ leftN c a ∧ leftN c a < 1000000
  | [], c, h, _ => h
  | x :: r, c, h, hr => by
    have := hr x (List.mem_cons_self ..)
    exact leftN_in r _ (by omega) (fun y hy => hr y (List.mem_cons_of_mem _ hy))
def sumN : List Rn → Int
  | [] => 0
  | x :: r => x.n + sumN r
theorem leftN_zero : ∀ (a : List Rn) (c : Int), 0 ≤ c → c ≤ sumN a → (∀ x ∈ a, 1 ≤ x.n) → leftN c a = 0
  | [], c, h, h', _ => by show c = 0; have : c ≤ 0 := h'; omega
  | x :: r, c, h, h', hr => by
    have h1 := hr x (List.mem_cons_self ..)
    have h2 : c ≤ x.n + sumN r := h'
    have hp : 0 ≤ sumN r := by
      have : ∀ l : List Rn, (∀ x ∈ l, 1 ≤ x.n) → 0 ≤ sumN l := fun l => by
        induction l with
        | nil => intro _; exact Int.le_refl _
        | cons y l ih =>
          intro hl
          have a1 := hl y (List.mem_cons_self ..)
          have a2 := ih (fun z hz => hl z (List.mem_cons_of_mem _ hz))
          show 0 ≤ y.n + sumN l
          omega
      exact this r fun y hy => hr y (List.mem_cons_of_mem _ hy)
    exact leftN_zero r _ (by omega) (by omega) (fun y hy => hr y (List.mem_cons_of_mem _ hy))
def newRuns (file lev count : Int) : List Rn := if count = 0 then [] else [⟨file, lev, count, false⟩]
/-- What the loop holds. -/
structure AfI (w1 : World) (g cp : Nat) (rs : List Rn) (W : World) : Prop where
  be : Below w1.heap.size w1 W
  sp : RSp W g cp rs
  gw : w1.heap.size ≤ g
theorem AfI.below {w1 W W1 : World} {g cp : Nat} {rs : List Rn} (h : AfI w1 g cp rs W) (hb : Below W.heap.size W W1) : AfI w1 g cp rs W1 := ⟨h.be.trans (hb.mono h.be.size), h.sp.below hb, h.gw⟩
theorem rsp_own0 {W : World} {base g cp : Nat} (h : RSp W g cp []) (hb : base ≤ g) : W.ownsRow base 47 4 (.slice (some ⟨g, 0, none⟩) 0 cp) 0 [] := by
  obtain ⟨cur, hc, hs⟩ := h.bl
  exact ⟨rfl, .inr ⟨g, cp, cur, rfl, hb, hc, Nat.zero_le _, h.mx, hs, by simp⟩⟩
theorem rnok_nil : RnOk [] := ⟨by simp, fun x hx => (List.not_mem_nil hx).elim, fun x hx => (List.not_mem_nil hx).elim, fun x hx => (List.not_mem_nil hx).elim, List.Pairwise.nil, .inl (by simp)⟩
theorem rnok_one {x : Rn} (h1 : 1 ≤ x.f ∧ x.f < 9223372036854775807) (h2 : 0 ≤ x.l ∧ x.l < 4) (h3 : 1 ≤ x.n ∧ x.n < 1000000) : RnOk [x] :=
  ⟨by simp, fun y hy => by rw [List.mem_singleton.1 hy]; exact h1, fun y hy => by rw [List.mem_singleton.1 hy]; exact h2, fun y hy => by rw [List.mem_singleton.1 hy]; exact h3, List.pairwise_singleton _ _, .inl (by simp)⟩
theorem rcells_new (W : World) (x : Rn) : ∀ j u, x.cells[j]? = some u → (W.alloc (.cells #[.int .i64 x.f, .int .i64 x.l, .int .i64 x.n, .bool x.s] 47)).cell? ((⟨W.heap.size, 0, none⟩ : Addr).add j) = some u := fun j u hj => by
  rw [Addr.add_lit, Nat.zero_add]
  refine (blk_cell (al_new (W := W) (o := .cells #[.int .i64 x.f, .int .i64 x.l, .int .i64 x.n, .bool x.s] 47) rfl) j).trans ?_
  show (x.cells.toArray)[j]? = _
  rw [List.getElem?_toArray]
  exact hj
set_option maxRecDepth 100000 in
set_option maxHeartbeats 2000000 in
theorem after_c {w : World} {b b2 c c2 : Nat} {rs : List Rn} {file lev count : Int} (h : RnRow w b rs) (hok : RnOk rs) (h0 : 0 < rs.length) (hn : rs.length ≤ 8) (hz : ZRow w b2 (rs.map Rn.f)) (hf : 1 ≤ file ∧ file < 9223372036854775807) (hl : 0 ≤ lev ∧ lev < 4) (hc : 0 ≤ count ∧ count < 1000000) (hs : count ≤ sumN rs) :
    Calls Try.prog 18 #[.slice (some ⟨b, 0, none⟩) rs.length c, .agg #[.slice (some ⟨b2, 0, none⟩) rs.length c2, .int .i64 lev], .int .i64 file, .int .i64 count] w fun e w' =>
      ∃ (R' : Option Addr) (b' c' : Nat), e = .returned (.tuple #[.slice R' (newRuns file lev count).length c', .int .i64 0]) ∧ (newRuns file lev count ≠ [] → R' = some ⟨b', 0, none⟩) ∧ RnRow w' b' (newRuns file lev count) ∧ Below w.heap.size w w' := by
  have hB1 := ((Below.refl _ w).alloc (Nat.le_refl _) (.cells #[.slice (some ⟨b2, 0, none⟩) rs.length c2, .int .i64 lev] 38)).alloc (by rw [World.size_alloc]; omega) (.cells #[.int .i64 file] 3)
  have hT := al_old (al_new (W := w) (o := .cells #[.slice (some ⟨b2, 0, none⟩) rs.length c2, .int .i64 lev] 38) rfl) (.cells #[.int .i64 file] 3)
  have hF := al_new (W := w.alloc (.cells #[.slice (some ⟨b2, 0, none⟩) rs.length c2, .int .i64 lev] 38)) (o := .cells #[.int .i64 file] 3) rfl
  rw [World.size_alloc] at hF
  obtain ⟨w1, hw1⟩ : ∃ w1, w1 = (w.alloc (.cells #[.slice (some ⟨b2, 0, none⟩) rs.length c2, .int .i64 lev] 38)).alloc (.cells #[.int .i64 file] 3) := ⟨_, rfl⟩
  have HW1 := Aside0.mk hw1
  rw [← hw1] at hB1 hT hF
  clear hw1
  have H := Aside0.mk (h.below hB1)
  have HZ := Aside0.mk (hz.below hB1)
  have HOK := Aside0.mk hok
  have HS := Aside0.mk hs
  have HT := Aside0.mk hT
  have HF := Aside0.mk hF
  have HB1 := Aside0.mk hB1
  have HPR := Aside0.mk (pright_c (c := c) (fun _ => rfl) H.out hok)
  have HHH := Aside0.mk (And.intro hf (And.intro hl hc))
  have t1 : decide (file < 1) = false := decide_eq_false (by omega)
  have t2 : decide (count < 0) = false := decide_eq_false (by omega)
  have t3 : decide (lev < 0) = false := decide_eq_false (by omega)
  have t4 : decide (4 ≤ lev) = false := decide_eq_false (by omega)
  have t5 : decide ((64 : Int) < (rs.length : Int)) = false := decide_eq_false (by omega)
  have t6 : decide (64 < rs.length) = false := decide_eq_false (by omega)
  clear h hz hok hs hT hF hB1 hf hl hc
  go_enter Try.func18, Try.ntmps18
  go_upto_region 1 with fail
  rw [← HW1.out]
  have q0 : w1.cell? ⟨w.heap.size, 0, none⟩ = some (.slice (some ⟨b2, 0, none⟩) rs.length c2) := (blk_cell HT.out 0).trans rfl
  have q1 : w1.cell? ⟨w.heap.size, 1, none⟩ = some (.int .i64 lev) := (blk_cell HT.out 1).trans rfl
  have q2 : w1.cell? ⟨w.heap.size + 1, 0, none⟩ = some (.int .i64 file) := (blk_cell HF.out 0).trans rfl
  go_upto_region 4 with (first
    | (go_at_call 15
       refine HPR.out.mono ?_
       rintro e w2 ⟨rfl, hb2⟩
       replace q0 := cell_below hb2 q0
       replace q1 := cell_below hb2 q1
       replace q2 := cell_below hb2 q2
       have HCL := Aside0.mk (rclone_c (c := c) (H.out.below hb2) h0 (by omega)))
    | (go_at_call 33
       refine HCL.out.mono ?_
       rintro e w3 ⟨g, cp, rfl, hg, hsp, hb3⟩
       replace q0 := cell_below hb3 q0
       replace q1 := cell_below hb3 q1
       replace q2 := cell_below hb3 q2)
    | fail)
  have hA0 : AfI w1 g cp (rs.drop 0) w3 := ⟨hb2.trans (hb3.mono hb2.size), hsp, Nat.le_trans hb2.size hg⟩
  have HA0 := Aside0.mk hA0
  clear hA0 hb2 hb3 hsp hg HCL HPR t1 t2 t3 t4 t5 t6
  go_wp2_with fail
  clear q0 q1 q2
  go_loopw [10, 11, 48] (fun o l i wr => ∃ (j : Nat), i = .int .i64 j ∧ j ≤ rs.length ∧ o = .slice (some ⟨g, 0, none⟩) (rs.drop j).length cp ∧ l = .int .i64 (leftN count (rs.take j)) ∧ Aside0 (AfI w1 g cp (rs.drop j) wr)) (fun _ _ i _ => rs.length - (intOf i).toNat)
  case atStart => exact ⟨0, rfl, by omega, rfl, rfl, HA0⟩
  case round =>
    clear HA0
    obtain ⟨j, rfl, hj, rfl, rfl, HA⟩ := hrel
    by_cases hlt : j < rs.length
    · have t1 : decide (j < rs.length) = true := decide_eq_true hlt
      have hd : rs.drop j = rs[j] :: rs.drop (j + 1) := (List.getElem_cons_drop hlt).symm
      have hl2 : (rs.drop (j + 1)).length ≤ 64 := by rw [List.length_drop]; omega
      have hta := leftN_app (rs.take j) rs[j] count
      rw [← List.take_succ_eq_append_getElem hlt] at hta
      have hli := leftN_in (rs.take j) count HHH.out.2.2 (fun x hx => HOK.out.np x (List.mem_of_mem_take hx))
      have hxn := HOK.out.np _ (List.getElem_mem hlt)
      have y0 : wr.cell? ⟨b2, j, none⟩ = some (.int .i64 rs[j].f) := by
        have := (HZ.out.below HA.out.be) j (by rw [List.length_map]; exact hlt)
        rwa [List.getElem_map] at this
      obtain ⟨r, hr⟩ : ∃ r, rs.drop (j + 1) = r := ⟨_, rfl⟩
      rw [hr] at hd hl2
      rw [hd] at HA ⊢
      rw [List.length_cons]
      have HRR := Aside0.mk hr
      clear hr
      have HTA := Aside0.mk hta
      generalize leftN count (rs.take j) = L at *
      generalize rs[j] = x at *
      have hX := HA.out.sp
      obtain ⟨x0, x1, x2, x3⟩ := hX.row.cells (j := 0) (by simp)
      simp only [Nat.zero_mul, Nat.zero_add, List.getElem_cons_zero] at x0 x1 x2 x3
      have hBA := (Below.refl _ wr).alloc (Nat.le_refl _) (.cells #[.int .i64 x.f] 3)
      have HIX := Aside0.mk (rindex_hit (c := cp) (hX.row.below hBA) hl2 ((blk_cell (al_new (W := wr) (o := .cells #[.int .i64 x.f] 3) rfl) 0).trans rfl) rfl)
      have hAA := HA.out.below hBA
      have HAA := Aside0.mk hAA
      have HD := Aside0.mk hd
      clear hta hX hBA hAA hd
      have g1 : (0 : Int) < (r.length : Int) + 1 := by omega
      go_upto_region 12 with (first
        | (go_at_call 34
           refine HIX.out.mono ?_
           rintro e w5 ⟨rfl, hb5⟩
           have hA5 := HAA.out.below hb5
           obtain ⟨z0, z1, z2, z3⟩ := hA5.sp.row.cells (j := 0) (by simp)
           simp only [Nat.zero_mul, Nat.zero_add, List.getElem_cons_zero] at z0 z1 z2 z3)
        | fail)
      have HDE := Aside0.mk (rdelete_c hA5.sp)
      have HA5 := Aside0.mk hA5
      clear hA5 z0 z1 z2 z3 hb5
      go_wp2_with (first
        | (go_at_call 36
           refine HDE.out.mono ?_
           rintro e w6 ⟨rfl, hsp6, hb6⟩)
        | fail)
      go_roundw
      case rel => exact ⟨j + 1, by go_num, by omega, by rw [HRR.out], by
        rw [HTA.out]
        congr 1
        rw [Int.min_def]
        split <;> split <;> omega, ⟨by
        rw [HRR.out]
        exact ⟨HA5.out.be.trans (hb6.mono HA5.out.gw), hsp6, HA5.out.gw⟩⟩⟩
      case measure => simp [intOf]; omega
    · obtain rfl : j = rs.length := by omega
      have t1 : decide (rs.length < rs.length) = false := decide_eq_false hlt
      have hz0 := leftN_zero rs count HHH.out.2.2.1 HS.out (fun x hx => (HOK.out.np x hx).1)
      rw [List.take_length, hz0]
      rw [List.drop_length] at HA ⊢
      rw [List.length_nil]
      have q1 : wr.cell? ⟨w.heap.size, 1, none⟩ = some (.int .i64 lev) := cell_below HA.out.be ((blk_cell HT.out 1).trans rfl)
      have q2 : wr.cell? ⟨w.heap.size + 1, 0, none⟩ = some (.int .i64 file) := cell_below HA.out.be ((blk_cell HF.out 0).trans rfl)
      clear hz0
      by_cases hc0 : count = 0
      · subst hc0
        have HPN := fun (W : World) => pright_c (w := W) (R := some ⟨g, 0, none⟩) (b := g) (c := cp) (rs := []) (fun _ => rfl) (fun j hj => by simp at hj) rnok_nil
        have HPR := Aside0.mk HPN
        clear HPN
        go_wp2_with (first
          | (go_at_call 37; refine rcont_none.mono ?_; rintro e w5 ⟨rfl, hb5⟩)
          | (go_at_call 15; refine (HPR.out _).mono ?_; rintro e w6 ⟨rfl, hb6⟩)
          | fail)
        go_ret2
        have hA6 := (HA.out.below hb5).below hb6
        exact ⟨some ⟨g, 0, none⟩, g, cp, rfl, fun h => absurd rfl h, fun j hj => by simp [newRuns] at hj, HB1.out.trans (hA6.be.mono HB1.out.size)⟩
      · have t7 : decide (0 < count) = true := decide_eq_true (by have := HHH.out.2.2.1; omega)
        have hnr : newRuns file lev count = [⟨file, lev, count, false⟩] := by unfold newRuns; rw [if_neg hc0]
        have HNR := Aside0.mk hnr
        have HC0 := Aside0.mk hc0
        obtain ⟨i0, hi, hzz⟩ := Option.map_eq_some_iff.1 info_run
        simp only [Prod.mk.injEq] at hzz
        obtain ⟨hz0, hz1, hz2⟩ := hzz
        clear hnr hc0
        go_wp2_with (first
          | (go_at_call 37
             refine rcont_none.mono ?_
             rintro e w5 ⟨rfl, hb5⟩
             have hA5 := HA.out.below hb5
             have hs5 := hA5.be.size
             replace q1 := cell_below hb5 q1
             replace q2 := cell_below hb5 q2
             have HA5 := Aside0.mk hA5
             clear hA5)
          | (at_builtin
             refine wpList_append_own_at _ rfl _ _ 27 rfl w1.heap.size 47 i0 _ 4 32 Try.underlying27 hi hz0 hz1 hz2 rfl (by decide) _ _ _ rfl ((rsp_own0 HA5.out.sp HA5.out.gw).alloc _) ⟨w5.heap.size, 0, none⟩ 1 1 (Rn.cells ⟨file, lev, count, false⟩) rfl rfl (rcells_new w5 ⟨file, lev, count, false⟩) (fun u hu => by simp only [Rn.cells, List.mem_cons, List.not_mem_nil, or_false] at hu; rcases hu with rfl | rfl | rfl | rfl <;> rfl) (by simp only [maxLen]; omega) (by omega) (by rw [World.size_alloc]; omega) ?_
             intro v' w6 hown6 hg6 hnil6 hat6
             rw [List.nil_append] at hown6
             have hown7 : w6.ownsRow w1.heap.size 47 4 v' 1 (([⟨file, lev, count, false⟩] : List Rn).flatMap Rn.cells) := hown6
             obtain ⟨g', cp', rfl, hgb, hsp6⟩ := rsp_own hown7 rfl (by omega)
             have hb6 : Below w1.heap.size w1 w6 := (HA5.out.be.alloc HA5.out.be.size _).grown hg6 (by rw [World.size_alloc]; omega) (fun k hk => by have := (rsp_own0 HA5.out.sp HA5.out.gw).lt k hk; exact this.1)
             have HPR := Aside0.mk (pright_c (c := cp') (R := some ⟨g', 0, none⟩) (fun _ => rfl) hsp6.row (rnok_one (x := ⟨file, lev, count, false⟩) HHH.out.1 HHH.out.2.1 (by have := HHH.out.2.2; simp only; have := HC0.out; omega)))
             clear hown6 hown7 hg6 hnil6 hat6)
          | (go_at_call 15; refine HPR.out.mono ?_; rintro e w7 ⟨rfl, hb7⟩)
          | fail)
        go_ret2
        rw [HNR.out]
        exact ⟨some ⟨g', 0, none⟩, g', cp', rfl, fun _ => rfl, (hsp6.below hb7).row, HB1.out.trans ((hb6.trans (hb7.mono hb6.size)).mono HB1.out.size)⟩
end Go.Proofs.Ytoikaegohkolkaa.Top
