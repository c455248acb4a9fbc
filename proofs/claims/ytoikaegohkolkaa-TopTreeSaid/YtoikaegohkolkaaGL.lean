/-
  merge.right at rows that are right; conditions: those that each theorem states.
-/
import Derived.Test.YtoikaegohkolkaaGK
import Derived.Test.YtoikaegohkolkaaGC
namespace Go.Proofs.Ytoikaegohkolkaa.Top
set_option linter.unusedSimpArgs false
set_option linter.unusedVariables false
open Go.RowKit Go.Proofs.YtoikaegohkolkaaW.PrintWords Go.Proofs.YtoikaegohkolkaaW.PrintLast Go.Proofs.YtoikaegohkolkaaW.PrintMore Go.Proofs.Ytoikaegohkolkaa.Plain Go.Proofs.Ytoikaegohkolkaa.KFns Go.Proofs.Ytoikaegohkolkaa.Fns
/-- A row that is right, of no more than a few thousand entries. -/
structure RowR (es : List Ent) : Prop where
  srt : Srt (es.map Ent.ka)
  gd : ∀ x ∈ es, Gd x.a
  byt : ∀ x ∈ es, Byt x.k
  n : es.length ≤ 4096
  kl : ∀ x ∈ es, 0 < x.k.length ∧ x.k.length ≤ 1000000
theorem RowR.lt {es : List Ent} (h : RowR es) {i : Nat} (hi : i + 1 < es.length) : lts (es[i]'(by omega)).k es[i + 1].k = true := by
  have h2 := (List.pairwise_iff_getElem.1 h.srt) i (i + 1) (by simp; omega) (by simp; omega) (by omega)
  simpa [Ent.ka] using h2
theorem mrightc_c {w : World} {x : Ent} (hg : Gd x.a) : Calls Try.prog 80 #[x.v] w fun e w' => e = .returned (.bool false) ∧ Below w.heap.size w w' := by
  obtain ⟨A, ck, k, a⟩ := x
  obtain ⟨ac, ao, ah, al, an, ax⟩ := a
  have hB := (Below.refl _ w).alloc (Nat.le_refl _) (.cells #[.slice A k.length ck, .int .u64 ac, .bool ao, .int .i64 ah, .int .u64 al, .int .i64 an, .int .i64 ax] 56)
  have HR := Aside0.mk (right_gd (w := w.alloc (.cells #[.slice A k.length ck, .int .u64 ac, .bool ao, .int .i64 ah, .int .u64 al, .int .i64 an, .int .i64 ax] 56)) hg)
  unfold Ent.v entV
  unfold Ag.v at HR
  simp only at HR ⊢
  clear hg
  go_enter Try.func80, Try.ntmps80
  go_wp2_with (first | (go_at_call 81; refine HR.out.mono ?_; rintro e w2 ⟨rfl, hb2⟩) | fail)
  go_ret
  exact ⟨rfl, hB.trans (hb2.mono hB.size)⟩
set_option maxRecDepth 100000 in
set_option maxHeartbeats 4000000 in
theorem mright_c {w : World} {R : Option Addr} {b o c : Nat} {es : List Ent} (hR : es ≠ [] → R = some ⟨b, o, none⟩) (he : EnRow w b o es) (hr : RowR es) :
    Calls Try.prog 54 #[.slice R es.length c] w fun e w' => e = .returned (.int .i64 0) ∧ Below w.heap.size w w' := by
  have HH := Aside0.mk (And.intro hR (And.intro he hr))
  have hn := hr.n
  clear hR he hr
  go_enter Try.func54, Try.ntmps54
  go_wp2_with fail
  go_loopw [6] (fun i wr => ∃ (j : Nat), i = .int .i64 j ∧ j ≤ es.length ∧ Aside0 (Below w.heap.size w wr)) (fun i _ => es.length - (intOf i).toNat)
  case atStart => exact ⟨0, rfl, by omega, ⟨Below.refl _ _⟩⟩
  case round =>
    obtain ⟨j, rfl, hj, HI⟩ := hrel
    by_cases hlt : j < es.length
    · have t1 : decide (j < es.length) = true := decide_eq_true hlt
      by_cases h0 : j = 0
      · subst h0
        go_wp2_with fail
        go_quiet (fail)
        go_wp2_with fail
        go_roundw
        case rel => exact ⟨1, by go_num, by omega, ⟨HI.out.trans (bdrewN (Below.refl _ _))⟩⟩
        case measure => simp [intOf]; omega
      · obtain ⟨i, rfl⟩ : ∃ i, j = i + 1 := ⟨j - 1, by omega⟩
        have hli : i < es.length := by omega
        obtain rfl := HH.out.1 (by intro e; rw [e] at hlt; simp at hlt)
        have hE := HH.out.2.1.below HI.out
        have x0 := (hE.cells hlt).1
        have y0 := (hE.cells hli).1
        have hrx := (hE.rd _ (List.getElem_mem hlt)).k
        have hry := (hE.rd _ (List.getElem_mem hli)).k
        have hbx := HH.out.2.2.byt _ (List.getElem_mem hlt)
        have hby := HH.out.2.2.byt _ (List.getElem_mem hli)
        have hll := HH.out.2.2.lt hlt
        generalize es[i] = y at *
        generalize es[i + 1] = x at *
        have hcm := fun n => compare_c (w := wr.drewN n) (c := y.c) (d := x.c) (hry.below (bdrewN (Below.refl _ _))) (hrx.below (bdrewN (Below.refl _ _)))
        have HCM := Aside0.mk (fun n => (hcm n).mono fun e w' (h : e = .returned (.int .i64 (cmpB y.k x.k)) ∧ wr.drewN n = w') => (⟨h.1, h.2.symm⟩ : e = .returned (.int .i64 (cmpB y.k x.k)) ∧ w' = wr.drewN n))
        have hcl := cmpB_lts hby hbx
        have e1 : IntKind.i64.wrap ((i : Int) + 1 - 1) = (i : Int) := by rw [IntKind.wrap_i64]; omega
        have g1 : (i : Int) + 1 < (es.length : Int) := by omega
        have g2 : (i : Int) < (es.length : Int) := by omega
        have g3 : (0 : Int) < (i : Int) + 1 := by omega
        have b1 : decide (0 ≤ cmpB y.k x.k) = false := decide_eq_false (by have := hcl.2 hll; omega)
        clear hE hrx hry hbx hby hcm hll hcl
        go_wp2_with fail
        go_quiet (first | (go_at_call 26; refine Calls.quiet_of_same (HCM.out _)))
        go_wp2_with fail
        go_roundw
        case rel => exact ⟨i + 1 + 1, by go_num, by omega, ⟨HI.out.trans (bdrewN (Below.refl _ _))⟩⟩
        case measure => simp [intOf]; omega
    · obtain rfl : j = es.length := by omega
      have t1 : decide (es.length < es.length) = false := decide_eq_false hlt
      have HC := Aside0.mk (econtM_c (c := c) (fun _ => false) HH.out.1 (HH.out.2.1.below HI.out) hn (fun W hW x hx => mrightc_c (HH.out.2.2.gd x hx)))
      have ha : (es.any fun _ => false) = false := by simp
      rw [ha] at HC
      go_wp2_with (first | (go_at_call 20; refine HC.out.mono ?_; rintro e w3 ⟨rfl, hb3⟩) | fail)
      go_ret
      exact ⟨rfl, HI.out.trans (hb3.mono HI.out.size)⟩
/-- What is left of a row, where it lies, and its place. -/
structure Fe where
  b : Nat
  o : Nat
  cp : Nat
  es : List Ent
  p : Nat
def Fe.cells (f : Fe) : List Value := [.slice (some ⟨f.b, f.o, none⟩) f.es.length f.cp, .int .i64 f.p]
def Fe.v (f : Fe) : Value := .agg #[.slice (some ⟨f.b, f.o, none⟩) f.es.length f.cp, .int .i64 f.p]
def Fe.fr (f : Fe) : Fr := (f.es.map Ent.ka, f.p)
structure Fe.ok (W : World) (f : Fe) : Prop where
  row : EnRow W f.b f.o f.es
  rt : RowR f.es
  ne : f.es ≠ []
  le : f.es.length ≤ f.cp
  cap : f.cp ≤ 9223372036854775807
theorem Fe.ok.below {W W1 : World} {f : Fe} (h : f.ok W) (hb : Below W.heap.size W W1) : f.ok W1 := ⟨h.row.below hb, h.rt, h.ne, h.le, h.cap⟩
set_option maxRecDepth 100000 in
set_option maxHeartbeats 4000000 in
theorem mless_c {w : World} {f g : Fe} (hf : f.ok w) (hg : g.ok w) : Calls Try.prog 82 #[f.v, g.v] w fun e w' => e = .returned (.bool (lessFr f.fr g.fr)) ∧ Below w.heap.size w w' := by
  obtain ⟨fb, fo, fc, fes, fp⟩ := f
  obtain ⟨gb, go, gc, ges, gp⟩ := g
  obtain ⟨x, fr, rfl⟩ : ∃ x r, fes = x :: r := by
    cases fes with
    | nil => exact absurd rfl hf.ne
    | cons x r => exact ⟨x, r, rfl⟩
  obtain ⟨y, gr, rfl⟩ : ∃ x r, ges = x :: r := by
    cases ges with
    | nil => exact absurd rfl hg.ne
    | cons x r => exact ⟨x, r, rfl⟩
  have hB1 := (Below.refl _ w).alloc (Nat.le_refl _) (.cells #[.slice (some ⟨fb, fo, none⟩) (x :: fr).length fc, .int .i64 fp] 119)
  have hB2 := hB1.trans (((Below.refl _ _).alloc (Nat.le_refl _) (.cells #[.slice (some ⟨gb, go, none⟩) (y :: gr).length gc, .int .i64 gp] 119)).mono hB1.size)
  have hN1 := al_new (W := w) (o := .cells #[.slice (some ⟨fb, fo, none⟩) (x :: fr).length fc, .int .i64 fp] 119) rfl
  have hN2 := al_new (W := w.alloc (.cells #[.slice (some ⟨fb, fo, none⟩) (x :: fr).length fc, .int .i64 fp] 119)) (o := .cells #[.slice (some ⟨gb, go, none⟩) (y :: gr).length gc, .int .i64 gp] 119) rfl
  rw [World.size_alloc] at hN2
  have hN1' := (((Below.refl (w.heap.size + 1) (w.alloc (.cells #[.slice (some ⟨fb, fo, none⟩) (x :: fr).length fc, .int .i64 fp] 119))).alloc (by rw [World.size_alloc]; omega) (.cells #[.slice (some ⟨gb, go, none⟩) (y :: gr).length gc, .int .i64 gp] 119)).block w.heap.size (by omega)).trans hN1
  unfold Fe.v Fe.fr
  simp only [lessFr, List.map_cons, Ent.ka]
  have hf2 := hf.below hB2
  have hg2 := hg.below hB2
  have x0 := (hf2.row.cells (j := 0) (by simp)).1
  have y0 := (hg2.row.cells (j := 0) (by simp)).1
  have hrx := (hf2.row.rd x (by simp)).k
  have hry := (hg2.row.rd y (by simp)).k
  have hbx := hf.rt.byt x (by simp)
  have hby := hg.rt.byt y (by simp)
  simp only [List.getElem_cons_zero, Nat.zero_mul, Nat.add_zero] at x0 y0
  clear hf hg hf2 hg2
  generalize hW : (w.alloc (.cells #[.slice (some ⟨fb, fo, none⟩) (x :: fr).length fc, .int .i64 fp] 119)).alloc (.cells #[.slice (some ⟨gb, go, none⟩) (y :: gr).length gc, .int .i64 gp] 119) = W at *
  have a0 : W.cell? ⟨w.heap.size, 0, none⟩ = some (.slice (some ⟨fb, fo, none⟩) (x :: fr).length fc) := (blk_cell hN1' 0).trans rfl
  have a1 : W.cell? ⟨w.heap.size, 1, none⟩ = some (.int .i64 fp) := (blk_cell hN1' 1).trans rfl
  have b0 : W.cell? ⟨w.heap.size + 1, 0, none⟩ = some (.slice (some ⟨gb, go, none⟩) (y :: gr).length gc) := (blk_cell hN2 0).trans rfl
  have b1 : W.cell? ⟨w.heap.size + 1, 1, none⟩ = some (.int .i64 gp) := (blk_cell hN2 1).trans rfl
  have hcm := fun n => compare_c (w := W.drewN n) (c := x.c) (d := y.c) (hrx.below (bdrewN (Below.refl _ _))) (hry.below (bdrewN (Below.refl _ _)))
  have HCM := Aside0.mk (fun n => (hcm n).mono fun e w' (h : e = .returned (.int .i64 (cmpB x.k y.k)) ∧ W.drewN n = w') => (⟨h.1, h.2.symm⟩ : e = .returned (.int .i64 (cmpB x.k y.k)) ∧ w' = W.drewN n))
  have hcl := cmpB_lts hbx hby
  have hcz := cmpB_zero hbx hby
  have HW := Aside0.mk hW
  have HB := Aside0.mk hB2
  have hfl : (0 : Int) < ((x :: fr).length : Int) := by simp
  have hgl : (0 : Int) < ((y :: gr).length : Int) := by simp
  generalize (x :: fr).length = n at *
  generalize (y :: gr).length = m at *
  clear hcm hB1 hB2 hN1 hN2 hN1' hrx hry hbx hby hW
  have key : ∀ (c1 c2 : Bool), decide (cmpB x.k y.k < 0) = c1 → (cmpB x.k y.k == 0) = c2 → Calls Try.prog 82 #[.agg #[.slice (some ⟨fb, fo, none⟩) n fc, .int .i64 fp], .agg #[.slice (some ⟨gb, go, none⟩) m gc, .int .i64 gp]] w fun e w' => e = .returned (.bool (c1 || (c2 && decide (fp < gp)))) ∧ Below w.heap.size w w' := by
    intro c1 c2 h1 h2
    clear hcl hcz
    cases c1 <;> cases c2 <;>
    · go_enter Try.func82, Try.ntmps82
      go_wp2_with (simp only [HW.out])
      go_quiet (first | (go_at_call 26; refine Calls.quiet_of_same (HCM.out _)))
      go_wp2_with fail
      go_ret
      exact ⟨by simp, bdrewN HB.out⟩
  have := key _ _ rfl rfl
  have e1 : decide (cmpB x.k y.k < 0) = lts x.k y.k := by
    cases hl : lts x.k y.k with
    | true => exact decide_eq_true (hcl.2 hl)
    | false => exact decide_eq_false fun h => by rw [hcl.1 h] at hl; cases hl
  have e2 : (cmpB x.k y.k == 0) = decide (x.k = y.k) := by
    by_cases h : x.k = y.k
    · rw [decide_eq_true h, hcz.2 h]; rfl
    · rw [decide_eq_false h]; exact beq_eq_false_iff_ne.2 fun h' => h (hcz.1 h')
  rw [e1, e2] at this
  exact this
theorem fflat_len (fs : List Fe) : (fs.flatMap Fe.cells).length = fs.length * 2 := by
  induction fs with
  | nil => rfl
  | cons x r ih => rw [List.flatMap_cons, List.length_append, ih]; simp [Fe.cells]; omega
theorem fflat_get : ∀ (fs : List Fe) (i m : Nat) (hi : i < fs.length), m < 2 → (fs.flatMap Fe.cells)[i * 2 + m]? = fs[i].cells[m]?
  | x :: xs, 0, m, _, hm => by
    have hl : x.cells.length = 2 := rfl
    rw [List.flatMap_cons, Nat.zero_mul, Nat.zero_add, List.getElem?_append_left (by omega)]
    rfl
  | x :: xs, i + 1, m, hi, hm => by
    have hl : x.cells.length = 2 := rfl
    have hi' : i < xs.length := by simpa using hi
    rw [List.flatMap_cons, List.getElem?_append_right (by omega), hl, show (i + 1) * 2 + m - 2 = i * 2 + m by omega, fflat_get xs i m hi' hm]
    rfl
theorem fflat_set : ∀ (fs : List Fe) (i : Nat) (f : Fe) (hi : i < fs.length), ((fs.flatMap Fe.cells).set (i * 2) (.slice (some ⟨f.b, f.o, none⟩) f.es.length f.cp)).set (i * 2 + 1) (.int .i64 f.p) = (fs.set i f).flatMap Fe.cells
  | x :: xs, 0, f, _ => by simp [Fe.cells]
  | x :: xs, i + 1, f, hi => by
    have ih := fflat_set xs i f (by simpa using hi)
    have hl : x.cells.length = 2 := rfl
    rw [List.set_cons_succ, List.flatMap_cons, List.flatMap_cons, List.set_append_right _ _ (by omega), List.set_append_right _ _ (by omega), hl, show (i + 1) * 2 - 2 = i * 2 by omega, show (i + 1) * 2 + 1 - 2 = i * 2 + 1 by omega, ih]
/-- A heap: its box, and the fronts in their row; the rows lay there before. -/
structure HpI (hb : Nat) (w0 : World) (fs : List Fe) (v : Value) (W : World) : Prop where
  box : W.heap[hb]? = some (.cells #[v] 116 (0, 0))
  own : W.ownsRow w0.heap.size 119 2 v fs.length (fs.flatMap Fe.cells)
  ok : ∀ f ∈ fs, f.ok w0
  be : Below w0.heap.size w0 W
  nh : w0.heap.size ≤ hb
theorem HpI.below {hb : Nat} {w0 W W1 : World} {fs : List Fe} {v : Value} (h : HpI hb w0 fs v W) (hb1 : Below W.heap.size W W1) : HpI hb w0 fs v W1 :=
  ⟨(hb1.block _ (blk_lt h.box)).trans h.box, own_below h.own hb1, h.ok, h.be.trans (hb1.mono h.be.size), h.nh⟩
/-- The fronts' row as a slice: a place, a first front's cells. -/
theorem HpI.row {hb : Nat} {w0 W : World} {fs : List Fe} {v : Value} (h : HpI hb w0 fs v W) : ∃ (A : Option Addr) (g cp : Nat), v = .slice A fs.length cp ∧ fs.length ≤ cp ∧ (fs ≠ [] → A = some ⟨g, 0, none⟩ ∧ w0.heap.size ≤ g ∧ g ≠ hb) ∧ ∀ j (hj : j < fs.length), W.cell? ⟨g, j * 2, none⟩ = some (.slice (some ⟨fs[j].b, fs[j].o, none⟩) fs[j].es.length fs[j].cp) ∧ W.cell? ⟨g, j * 2 + 1, none⟩ = some (.int .i64 fs[j].p) ∧ W.frozen? ⟨g, j * 2, none⟩ = false ∧ W.frozen? ⟨g, j * 2 + 1, none⟩ = false := by
  rcases h.own.2 with ⟨e, h0⟩ | ⟨g, cp, cur, e, hg, hbk, h1, h2, h3, h4⟩
  · have : fs = [] := List.length_eq_zero_iff.1 h0
    subst this
    exact ⟨none, 0, 0, e, Nat.le_refl _, fun h => absurd rfl h, fun j hj => by simp at hj⟩
  · refine ⟨some ⟨g, 0, none⟩, g, cp, e, h1, fun _ => ⟨rfl, hg, ?_⟩, fun j hj => ?_⟩
    · rintro rfl
      have := h.box
      rw [hbk] at this
      injection this with this
      injection this with _ this
      exact absurd this (by decide)
    · have c0 := (e ▸ h.own).cellAt (j * 2) (by omega)
      have c1 := (e ▸ h.own).cellAt (j * 2 + 1) (by omega)
      have f0 := fflat_get fs j 0 hj (by omega)
      have f1 := fflat_get fs j 1 hj (by omega)
      rw [Nat.add_zero] at f0
      exact ⟨by rw [c0, f0]; rfl, by rw [c1, f1]; rfl, (e ▸ h.own).frozenAt _, (e ▸ h.own).frozenAt _⟩
/-- Two fronts change places. -/
theorem HpI.swap {hb g cp a m : Nat} {w0 W : World} {fs : List Fe} (h : HpI hb w0 fs (.slice (some ⟨g, 0, none⟩) fs.length cp) W) (ha : a < fs.length) (hm : m < fs.length) (hg : g ≠ hb) (hgb : w0.heap.size ≤ g) :
    HpI hb w0 ((fs.set a fs[m]).set m fs[a]) (.slice (some ⟨g, 0, none⟩) fs.length cp) ((((W.setCell ⟨g, a * 2, none⟩ (.slice (some ⟨fs[m].b, fs[m].o, none⟩) fs[m].es.length fs[m].cp)).setCell ⟨g, a * 2 + 1, none⟩ (.int .i64 fs[m].p)).setCell ⟨g, m * 2, none⟩ (.slice (some ⟨fs[a].b, fs[a].o, none⟩) fs[a].es.length fs[a].cp)).setCell ⟨g, m * 2 + 1, none⟩ (.int .i64 fs[a].p)) := by
  have h1 := h.own.stored (a * 2) (.slice (some ⟨fs[m].b, fs[m].o, none⟩) fs[m].es.length fs[m].cp)
  have h2 := h1.1.stored (a * 2 + 1) (.int .i64 fs[m].p)
  have h3 := h2.1.stored (m * 2) (.slice (some ⟨fs[a].b, fs[a].o, none⟩) fs[a].es.length fs[a].cp)
  have h4 := h3.1.stored (m * 2 + 1) (.int .i64 fs[a].p)
  have e1 := fflat_set fs a fs[m] ha
  have e2 := fflat_set (fs.set a fs[m]) m fs[a] (by simpa using hm)
  have hgr := ((h1.2.trans h2.2).trans h3.2).trans h4.2
  refine ⟨(hgr.block hb (blk_lt h.box) (by simp; omega)).trans h.box, ?_, fun f hf => ?_, h.be.trans ⟨hgr.os, hgr.tape, hgr.output, hgr.size, fun k hk => hgr.block k (Nat.lt_of_lt_of_le hk h.be.size) (by simp; omega)⟩, h.nh⟩
  · have h5 := h4.1
    rw [e1, e2] at h5
    simpa using h5
  · rcases List.mem_or_eq_of_mem_set hf with hf | rfl
    · rcases List.mem_or_eq_of_mem_set hf with hf | rfl
      · exact h.ok f hf
      · exact h.ok _ (List.getElem_mem hm)
    · exact h.ok _ (List.getElem_mem ha)
theorem swap_fr {fs : List Fe} {a m : Nat} (ha : a < fs.length) (hm : m < fs.length) : ((fs.set a fs[m]).set m fs[a]).map Fe.fr = swapL (fs.map Fe.fr) a m := by
  unfold swapL
  rw [frAt_eq (by simpa using hm), frAt_eq (by simpa using ha), List.map_set, List.map_set]
  simp
end Go.Proofs.Ytoikaegohkolkaa.Top
