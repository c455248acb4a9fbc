/-
  merge.Heap's Next; conditions: those that each theorem states.
-/
import Derived.Test.YtoikaegohkolkaaGM
namespace Go.Proofs.Ytoikaegohkolkaa.Top
set_option linter.unusedSimpArgs false
set_option linter.unusedVariables false
open Go.RowKit Go.Proofs.YtoikaegohkolkaaW.PrintWords Go.Proofs.YtoikaegohkolkaaW.PrintLast Go.Proofs.YtoikaegohkolkaaW.PrintMore Go.Proofs.Ytoikaegohkolkaa.Plain Go.Proofs.Ytoikaegohkolkaa.KFns Go.Proofs.Ytoikaegohkolkaa.Fns
theorem own_take {w : World} {B n m sz g cp : Nat} {e : TypeId} {xs : List Value} (h : w.ownsRow B e sz (.slice (some ⟨g, 0, none⟩) n cp) n xs) (hm : m ≤ n) : w.ownsRow B e sz (.slice (some ⟨g, 0, none⟩) m cp) m (xs.take (m * sz)) := by
  have hmul := Nat.mul_le_mul_right sz hm
  rcases h.2 with ⟨e, _⟩ | ⟨g', cp', cur, e', hb, hg, h1, h2, h3, h4⟩
  · cases e
  · cases e'
    refine ⟨by rw [List.length_take, h.1, Nat.min_eq_left hmul], .inr ⟨g, cp, cur, rfl, hb, hg, by omega, h2, h3, ?_⟩⟩
    rw [← h4, List.take_take, Nat.min_eq_left hmul]
theorem EnRow.tail {W : World} {b o : Nat} {x : Ent} {r : List Ent} (h : EnRow W b o (x :: r)) : EnRow W b (o + 7) r :=
  ⟨fun j hj m u hu => by
    have := h.at_ (j + 1) (by simp; omega) m u (by simpa using hu)
    rwa [show o + (j + 1) * 7 + m = o + 7 + j * 7 + m by omega] at this, fun y hy => h.rd y (by simp [hy])⟩
theorem RowR.tail {x : Ent} {r : List Ent} (h : RowR (x :: r)) : RowR r :=
  ⟨(List.pairwise_cons.1 (show List.Pairwise _ (x.ka :: r.map Ent.ka) from h.srt)).2, fun y hy => h.gd y (by simp [hy]), fun y hy => h.byt y (by simp [hy]), by have := h.n; simp at this; omega, fun y hy => h.kl y (by simp [hy])⟩
/-- A front whose first entry was taken. -/
def Fe.tl (f : Fe) : Fe := ⟨f.b, f.o + 7, f.cp - 1, f.es.tail, f.p⟩
theorem Fe.ok.tail {W : World} {f : Fe} (h : f.ok W) (h1 : 1 < f.es.length) : f.tl.ok W := by
  obtain ⟨b, o, cp, es, p⟩ := f
  cases es with
  | nil => exact absurd rfl h.ne
  | cons x r =>
    have hl := h.le
    have hc := h.cap
    simp only [List.length_cons] at hl h1 hc
    refine ⟨h.row.tail, h.rt.tail, fun e => ?_, ?_, ?_⟩
    · have : r = [] := e
      subst this
      simp at h1
    · show r.length ≤ cp - 1
      omega
    · show cp - 1 ≤ _
      omega
theorem HpI.tail {hb g cp : Nat} {w0 W : World} {f : Fe} {r : List Fe} (h : HpI hb w0 (f :: r) (.slice (some ⟨g, 0, none⟩) (f :: r).length cp) W) (h1 : 1 < f.es.length) (hg : g ≠ hb) (hgb : w0.heap.size ≤ g) :
    HpI hb w0 (f.tl :: r) (.slice (some ⟨g, 0, none⟩) (f :: r).length cp) (W.setCell ⟨g, 0, none⟩ (.slice (some ⟨f.b, f.o + 7, none⟩) (f.es.length - 1) (f.cp - 1))) ∧ W.grownBy (W.setCell ⟨g, 0, none⟩ (.slice (some ⟨f.b, f.o + 7, none⟩) (f.es.length - 1) (f.cp - 1))) (some g) := by
  have h2 := h.own.stored 0 (.slice (some ⟨f.b, f.o + 7, none⟩) (f.es.length - 1) (f.cp - 1))
  have hgr := h2.2
  refine ⟨⟨(hgr.block hb (blk_lt h.box) (by simp; omega)).trans h.box, ?_, fun x hx => ?_, h.be.trans ⟨hgr.os, hgr.tape, hgr.output, hgr.size, fun k hk => hgr.block k (Nat.lt_of_lt_of_le hk h.be.size) (by simp; omega)⟩, h.nh⟩, hgr⟩
  · have h5 := h2.1
    simpa [Fe.cells, Fe.tl, List.length_tail] using h5
  · rcases List.mem_cons.1 hx with rfl | hx
    · exact (h.ok f (by simp)).tail h1
    · exact h.ok x (by simp [hx])
theorem HpI.drop {hb g cp : Nat} {w0 W : World} {fs : List Fe} {n : Nat} (h : HpI hb w0 fs (.slice (some ⟨g, 0, none⟩) fs.length cp) W) (hn : fs.length = n + 1) (hg : g ≠ hb) (hgb : w0.heap.size ≤ g) :
    HpI hb w0 ((fs.set 0 fs[n]).take n) (.slice (some ⟨g, 0, none⟩) n cp) (((W.setCell ⟨g, 0, none⟩ (.slice (some ⟨fs[n].b, fs[n].o, none⟩) fs[n].es.length fs[n].cp)).setCell ⟨g, 1, none⟩ (.int .i64 fs[n].p)).setCell ⟨hb, 0, none⟩ (.slice (some ⟨g, 0, none⟩) n cp)) ∧
      W.grownBy ((W.setCell ⟨g, 0, none⟩ (.slice (some ⟨fs[n].b, fs[n].o, none⟩) fs[n].es.length fs[n].cp)).setCell ⟨g, 1, none⟩ (.int .i64 fs[n].p)) (some g) := by
  have h1 := h.own.stored 0 (.slice (some ⟨fs[n].b, fs[n].o, none⟩) fs[n].es.length fs[n].cp)
  have h2 := h1.1.stored 1 (.int .i64 fs[n].p)
  have hgr := h1.2.trans h2.2
  have e1 := fflat_set fs 0 fs[n] (by omega)
  rw [Nat.zero_mul, Nat.zero_add] at e1
  have h3 := own_take (m := n) h2.1 (by omega)
  rw [e1] at h3
  have e2 : ((fs.set 0 fs[n]).flatMap Fe.cells).take (n * 2) = ((fs.set 0 fs[n]).take n).flatMap Fe.cells := by
    conv => lhs; rw [← List.take_append_drop n (fs.set 0 fs[n]), List.flatMap_append]
    rw [List.take_append_of_le_length (by rw [fflat_len, List.length_take]; simp; omega), List.take_of_length_le (by rw [fflat_len, List.length_take]; simp; omega)]
  rw [e2] at h3
  have hbx := (hgr.block hb (blk_lt h.box) (by simp; omega)).trans h.box
  have hb2 : Below w0.heap.size w0 ((W.setCell ⟨g, 0, none⟩ (.slice (some ⟨fs[n].b, fs[n].o, none⟩) fs[n].es.length fs[n].cp)).setCell ⟨g, 1, none⟩ (.int .i64 fs[n].p)) := h.be.trans ⟨hgr.os, hgr.tape, hgr.output, hgr.size, fun k hk => hgr.block k (Nat.lt_of_lt_of_le hk h.be.size) (by simp; omega)⟩
  have hl : ((fs.set 0 fs[n]).take n).length = n := by simp; omega
  refine ⟨⟨blk_put hbx 0 _ rfl, ?_, fun x hx => ?_, hb2.setCell (p := ⟨hb, 0, none⟩) h.nh _, h.nh⟩, hgr⟩
  · rw [hl]
    exact own_set hbx h3
  · have hx := List.mem_of_mem_take hx
    rcases List.mem_or_eq_of_mem_set hx with hx | rfl
    · exact h.ok x hx
    · exact h.ok _ (List.getElem_mem _)
theorem pop_tail {f : Fe} {r : List Fe} (h1 : 1 < f.es.length) : popL ((f :: r).map Fe.fr) = (f.tl :: r).map Fe.fr := by
  show (if 1 < (f.es.map Ent.ka).length then _ else _) = _
  rw [if_pos (by simpa using h1)]
  simp [Fe.fr, Fe.tl, List.map_tail]
theorem pop_drop {f : Fe} {r : List Fe} (h1 : ¬ 1 < f.es.length) : popL ((f :: r).map Fe.fr) = (((f :: r).set 0 ((f :: r)[r.length])).take r.length).map Fe.fr := by
  show (if 1 < (f.es.map Ent.ka).length then _ else _) = _
  rw [if_neg (by simpa using h1), List.map_take, List.map_set]
  have : frAt ((f :: r).map Fe.fr) (r.map Fe.fr).length = ((f :: r)[r.length]).fr := by
    rw [frAt_eq (by simp)]
    simp only [List.getElem_map, List.length_map]
  rw [← this]
  simp [Fe.fr]
theorem HpI.drop' {hb g cp : Nat} {w0 W : World} {fs : List Fe} {n : Nat} {l : Fe} (h : HpI hb w0 fs (.slice (some ⟨g, 0, none⟩) fs.length cp) W) (hn : fs.length = n + 1) (hl : fs[n]? = some l) (hg : g ≠ hb) (hgb : w0.heap.size ≤ g) :
    HpI hb w0 ((fs.set 0 l).take n) (.slice (some ⟨g, 0, none⟩) n cp) (((W.setCell ⟨g, 0, none⟩ (.slice (some ⟨l.b, l.o, none⟩) l.es.length l.cp)).setCell ⟨g, 1, none⟩ (.int .i64 l.p)).setCell ⟨hb, 0, none⟩ (.slice (some ⟨g, 0, none⟩) n cp)) ∧
      W.grownBy ((W.setCell ⟨g, 0, none⟩ (.slice (some ⟨l.b, l.o, none⟩) l.es.length l.cp)).setCell ⟨g, 1, none⟩ (.int .i64 l.p)) (some g) ∧
      ((W.setCell ⟨g, 0, none⟩ (.slice (some ⟨l.b, l.o, none⟩) l.es.length l.cp)).setCell ⟨g, 1, none⟩ (.int .i64 l.p)).heap[hb]? = some (.cells #[.slice (some ⟨g, 0, none⟩) fs.length cp] 116 (0, 0)) := by
  obtain ⟨h1, rfl⟩ := List.getElem?_eq_some_iff.1 hl
  obtain ⟨h2, h3⟩ := HpI.drop h hn hg hgb
  exact ⟨h2, h3, (h3.block hb (blk_lt h.box) (by simp; omega)).trans h.box⟩
theorem pop_drop' {f l : Fe} {r : List Fe} (h1 : ¬ 1 < f.es.length) (hl : (f :: r)[r.length]? = some l) : popL ((f :: r).map Fe.fr) = (((f :: r).set 0 l).take r.length).map Fe.fr := by
  obtain ⟨h2, rfl⟩ := List.getElem?_eq_some_iff.1 hl
  exact pop_drop h1
/-- All blocks but fronts and heaps lie as they lay. -/
def Kh (A B : World) : Prop := A.heap.size ≤ B.heap.size ∧ ∀ (k : Nat) (cs : Array Value) (e : TypeId), A.heap[k]? = some (.cells cs e (0, 0)) → e ≠ 119 → e ≠ 116 → B.heap[k]? = A.heap[k]?
theorem Kh.trans {A B C : World} (h : Kh A B) (k : Kh B C) : Kh A C := ⟨Nat.le_trans h.1 k.1, fun b cs e hb he hf => (k.2 b cs e ((h.2 b cs e hb he hf).trans hb) he hf).trans (h.2 b cs e hb he hf)⟩
theorem Kh.of_below {A B : World} (h : Below A.heap.size A B) : Kh A B := ⟨h.size, fun b cs e hb _ _ => h.block b (blk_lt hb)⟩
theorem Kh.grown {W W3 : World} {base n sz : Nat} {v : Value} {xs : List Value} (hown : W.ownsRow base 119 sz v n xs) (hg : W.grownBy W3 v.ownBlock) : Kh W W3 :=
  ⟨hg.size, fun b cs e hb he _ => hg.block b (blk_lt hb) (fun h => by
    obtain ⟨cs', hc⟩ := own_typed hown b h.symm
    rw [hb] at hc
    cases hc
    exact he rfl)⟩
theorem Kh.own {A B : World} {base n sz : Nat} {e : TypeId} {v : Value} {xs : List Value} (h : Kh A B) (he : e ≠ 119) (hf : e ≠ 116) (ho : A.ownsRow base e sz v n xs) : B.ownsRow base e sz v n xs := own_move ho fun k hk => by
  obtain ⟨cs, hc⟩ := own_typed ho k hk
  exact h.2 k cs e hc he hf
theorem Kh.box {A W : World} {hb : Nat} {cs : Array Value} {u : Value} (h : Kh A W) (hbx : W.heap[hb]? = some (.cells cs 116 (0, 0))) : Kh A (W.setCell ⟨hb, 0, none⟩ u) :=
  h.trans ⟨by simp, fun b cs' e hb' _ hf => Below.heap_setCell _ _ _ _ (fun e' => by
    subst e'
    rw [hbx] at hb'
    cases hb'
    exact hf rfl)⟩
theorem HpI.ent {hb e i : Nat} {w0 W : World} {fs : List Fe} {v u : Value} {cs : Array Value} (h : HpI hb w0 fs v W) (hT : W.heap[e]? = some (.cells cs 56 (0, 0))) (he : w0.heap.size ≤ e) : HpI hb w0 fs v (W.setCell ⟨e, i, none⟩ u) :=
  ⟨(Below.heap_setCell _ _ _ _ (fun e' => by
    have hbx := h.box
    rw [show hb = e from e', hT] at hbx
    cases hbx)).trans h.box, own_set hT h.own, h.ok, h.be.setCell (p := ⟨e, i, none⟩) he u, h.nh⟩
theorem Kh.put {A W : World} {e i : Nat} {u : Value} (h : Kh A W) (he : A.heap.size ≤ e) : Kh A (W.setCell ⟨e, i, none⟩ u) :=
  ⟨by simpa using h.1, fun k cs t hk h1 h2 => (Below.heap_setCell _ _ _ _ (fun e' => by
    have := blk_lt hk
    have e2 : k = e := e'
    omega)).trans (h.2 k cs t hk h1 h2)⟩
/-- The seven cells of an entry are written. -/
def putE (W : World) (e : Nat) (A : Option Addr) (n c : Nat) (a : Ag) : World := ((((((W.setCell ⟨e, 0, none⟩ (.slice A n c)).setCell ⟨e, 1, none⟩ (.int .u64 a.c)).setCell ⟨e, 2, none⟩ (.bool a.o)).setCell ⟨e, 3, none⟩ (.int .i64 a.hi)).setCell ⟨e, 4, none⟩ (.int .u64 a.lo)).setCell ⟨e, 5, none⟩ (.int .i64 a.mn)).setCell ⟨e, 6, none⟩ (.int .i64 a.mx)
theorem put7 {hb e c : Nat} {w0 w W : World} {fs : List Fe} {v y0 y1 y2 y3 y4 y5 y6 : Value} {A : Option Addr} {k : List Int} {a : Ag} (hI : HpI hb w0 fs v W) (hT : W.heap[e]? = some (.cells #[y0, y1, y2, y3, y4, y5, y6] 56 (0, 0))) (hk : Kh w W) (hwe : w.heap.size ≤ e) (h0 : w0.heap.size ≤ e) (hown : EntOk w.heap.size W ⟨A, c, k, a⟩) :
    (putE W e A k.length c a).heap[e]? = some (.cells #[.slice A k.length c, .int .u64 a.c, .bool a.o, .int .i64 a.hi, .int .u64 a.lo, .int .i64 a.mn, .int .i64 a.mx] 56 (0, 0)) ∧ HpI hb w0 fs v (putE W e A k.length c a) ∧ Kh w (putE W e A k.length c a) ∧ EntOk w.heap.size (putE W e A k.length c a) ⟨A, c, k, a⟩ := by
  unfold putE EntOk at *
  have b0 := blk_put (cs' := #[.slice A k.length c, y1, y2, y3, y4, y5, y6]) hT 0 (.slice A k.length c) rfl
  have b1 := blk_put (cs' := #[.slice A k.length c, .int .u64 a.c, y2, y3, y4, y5, y6]) b0 1 (.int .u64 a.c) rfl
  have b2 := blk_put (cs' := #[.slice A k.length c, .int .u64 a.c, .bool a.o, y3, y4, y5, y6]) b1 2 (.bool a.o) rfl
  have b3 := blk_put (cs' := #[.slice A k.length c, .int .u64 a.c, .bool a.o, .int .i64 a.hi, y4, y5, y6]) b2 3 (.int .i64 a.hi) rfl
  have b4 := blk_put (cs' := #[.slice A k.length c, .int .u64 a.c, .bool a.o, .int .i64 a.hi, .int .u64 a.lo, y5, y6]) b3 4 (.int .u64 a.lo) rfl
  have b5 := blk_put (cs' := #[.slice A k.length c, .int .u64 a.c, .bool a.o, .int .i64 a.hi, .int .u64 a.lo, .int .i64 a.mn, y6]) b4 5 (.int .i64 a.mn) rfl
  have b6 := blk_put (cs' := #[.slice A k.length c, .int .u64 a.c, .bool a.o, .int .i64 a.hi, .int .u64 a.lo, .int .i64 a.mn, .int .i64 a.mx]) b5 6 (.int .i64 a.mx) rfl
  have o0 := own_set (i := 0) (u := .slice A k.length c) hT (show W.ownsRow _ _ _ _ _ _ from hown)
  have o1 := own_set (i := 1) (u := .int .u64 a.c) b0 o0
  have o2 := own_set (i := 2) (u := .bool a.o) b1 o1
  have o3 := own_set (i := 3) (u := .int .i64 a.hi) b2 o2
  have o4 := own_set (i := 4) (u := .int .u64 a.lo) b3 o3
  have o5 := own_set (i := 5) (u := .int .i64 a.mn) b4 o4
  have o6 := own_set (i := 6) (u := .int .i64 a.mx) b5 o5
  exact ⟨b6, ((((((hI.ent hT h0).ent b0 h0).ent b1 h0).ent b2 h0).ent b3 h0).ent b4 h0).ent b5 h0,
    ((((((hk.put hwe).put hwe).put hwe).put hwe).put hwe).put hwe).put hwe,
    o6⟩
theorem put_far {W : World} {e i : Nat} {u v : Value} {q : Addr} (h : W.cell? q = some v) (hne : ¬ q.block = e) : (W.setCell ⟨e, i, none⟩ u).cell? q = some v := by
  rw [← h]
  unfold World.cell?
  rw [Below.heap_setCell W ⟨e, i, none⟩ u q.block hne]
set_option maxRecDepth 100000 in
set_option maxHeartbeats 8000000 in
theorem mnext_none {w0 w : World} {hb : Nat} {v : Value} (h : HpI hb w0 [] v w) :
    Calls Try.prog 30 #[.pointer (some ⟨hb, 0, none⟩)] w fun e w' => e = .returned (.tuple #[.agg #[.slice none 0 0, .int .u64 0, .bool false, .int .i64 0, .int .u64 0, .int .i64 0, .int .i64 0], .int .i64 0, .bool false]) ∧ Below w.heap.size w w' := by
  obtain ⟨A, g, cp, rfl, _⟩ := h.row
  have hB1 := (Below.refl _ w).alloc (Nat.le_refl _) (.cells #[.slice none 0 0, .int .u64 0, .bool false, .int .i64 0, .int .u64 0, .int .i64 0, .int .i64 0] 56)
  have hN1 := al_new (W := w) (o := .cells #[.slice none 0 0, .int .u64 0, .bool false, .int .i64 0, .int .u64 0, .int .i64 0, .int .i64 0] 56) (k := w.heap.size) rfl
  have hI1 := h.below hB1
  have k0 : (w.alloc (.cells #[.slice none 0 0, .int .u64 0, .bool false, .int .i64 0, .int .u64 0, .int .i64 0, .int .i64 0] 56)).cell? ⟨hb, 0, none⟩ = some (.slice A ([] : List Fe).length cp) := (blk_cell hI1.box 0).trans rfl
  have HB := Aside0.mk (And.intro hB1 (And.intro hN1 hI1))
  clear h hB1 hN1 hI1
  go_enter Try.func30, Try.ntmps30
  go_wp2_with fail
  exact bodyPost_ret (results3_row rfl _ _ w.heap.size 56 _ (0, 0) _ rfl HB.out.2.1 Try.underlying56 rfl (by kernel_rfl)) rfl ⟨rfl, HB.out.1⟩
/-- What Next gives where there is something. -/
def NextR (w0 w : World) (hb : Nat) (fs : List Fe) (e : Ending) (w' : World) : Prop :=
  ∃ A c k a p fs' v', e = .returned (.tuple #[entV A k.length c a, .int .i64 p, .bool true]) ∧ (k, a) = hdF (fs.map Fe.fr) ∧ HpI hb w0 fs' v' w' ∧ fs'.map Fe.fr = snk (popL (fs.map Fe.fr)) 0 ∧ fs'.length ≤ fs.length ∧
      EntOk w.heap.size w' ⟨A, c, k, a⟩ ∧ Gd a ∧ Byt k ∧ (0 < k.length ∧ k.length ≤ 1000000) ∧ Kh w w'
set_option maxRecDepth 100000 in
set_option maxHeartbeats 8000000 in
theorem mnext_c {w0 w : World} {hb : Nat} {f : Fe} {r : List Fe} {v : Value} (h : HpI hb w0 (f :: r) v w) (hn : (f :: r).length ≤ 1000) :
    Calls Try.prog 30 #[.pointer (some ⟨hb, 0, none⟩)] w (NextR w0 w hb (f :: r)) := by
  obtain ⟨b, o, cp0, es, p0⟩ := f
  cases es with
  | nil => exact absurd rfl (h.ok _ (List.mem_cons_self ..)).ne
  | cons x t =>
    obtain ⟨A, g, cp, rfl, hcp, hA, hcell⟩ := h.row
    obtain ⟨rfl, hgb, hgh⟩ := hA (by simp)
    have hB1 := (Below.refl _ w).alloc (Nat.le_refl _) (.cells #[.slice none 0 0, .int .u64 0, .bool false, .int .i64 0, .int .u64 0, .int .i64 0, .int .i64 0] 56)
    have hN1 := al_new (W := w) (o := .cells #[.slice none 0 0, .int .u64 0, .bool false, .int .i64 0, .int .u64 0, .int .i64 0, .int .i64 0] 56) (k := w.heap.size) rfl
    have hI1 := h.below hB1
    have hI0 := Aside0.mk h
    clear h
    generalize hw1 : w.alloc (.cells #[.slice none 0 0, .int .u64 0, .bool false, .int .i64 0, .int .u64 0, .int .i64 0, .int .i64 0] 56) = w1 at *
    have HW1 := Aside0.mk hw1
    have hs1 : w1.heap.size = w.heap.size + 1 := by rw [← hw1, World.size_alloc]
    obtain ⟨A', g', cp', he', _, hA', hcell1⟩ := hI1.row
    cases he'
    obtain ⟨c0, c1, _, _⟩ := hcell1 0 (by simp)
    have hgh2 := (hA' (by simp)).1
    cases hgh2
    simp only [List.getElem_cons_zero, Nat.zero_mul, Nat.zero_add] at c0 c1
    clear hA hA' hcell hcell1 hw1
    have k0 : w1.cell? ⟨hb, 0, none⟩ = some (.slice (some ⟨g, 0, none⟩) (⟨b, o, cp0, x :: t, p0⟩ :: r : List Fe).length cp) := (blk_cell hI1.box 0).trans rfl
    have hnz : (((⟨b, o, cp0, x :: t, p0⟩ :: r : List Fe).length : Int) == 0) = false := by rw [List.length_cons]; simp; omega
    have HQ := Aside0.mk (And.intro hn (And.intro hI1 (And.intro hB1 (And.intro hN1 (And.intro hgb (And.intro hgh hcp))))))
    have hgl := hI0.out.own.lt g rfl
    have hfok := hI0.out.ok ⟨b, o, cp0, x :: t, p0⟩ (List.mem_cons_self ..)
    have HFO := Aside0.mk hfok
    have hnp : (0 : Int) < ((⟨b, o, cp0, x :: t, p0⟩ :: r : List Fe).length : Int) := by simp
    have hmp : (0 : Int) < ((x :: t).length : Int) := by simp
    have HGL := Aside0.mk hgl.2
    have HNF := Aside0.mk (rfl : (⟨b, o, cp0, x :: t, p0⟩ :: r : List Fe).length = r.length + 1)
    have HM := Aside0.mk (rfl : (x :: t).length = t.length + 1)
    clear hn hI1 hB1 hN1 hgb hgh hcp hgl hfok
    obtain ⟨nf, hnf⟩ : ∃ n, n = (⟨b, o, cp0, x :: t, p0⟩ :: r : List Fe).length := ⟨_, rfl⟩
    obtain ⟨m, hm⟩ : ∃ n, n = (x :: t).length := ⟨_, rfl⟩
    have HNF2 := Aside0.mk hnf
    have HM2 := Aside0.mk hm
    rw [← hnf] at k0 hnz hnp
    rw [← hm] at c0 hmp
    clear hnf hm
    go_enter Try.func30, Try.ntmps30
    go_upto_region 4 with (simp only [HW1.out])
    have hB2 := (Below.refl _ w1).alloc (Nat.le_refl _) (.cells #[.slice (some ⟨b, o, none⟩) m cp0, .int .i64 p0] 119)
    have hN2 := al_new (W := w1) (o := .cells #[.slice (some ⟨b, o, none⟩) m cp0, .int .i64 p0] 119) rfl
    generalize w1.alloc (.cells #[.slice (some ⟨b, o, none⟩) m cp0, .int .i64 p0] 119) = w2 at *
    rw [hs1] at hN2
    have hI2 := HQ.out.2.1.below hB2
    have hT2 := (hB2.block _ (blk_lt HQ.out.2.2.2.1)).trans HQ.out.2.2.2.1
    have hBw2 := HQ.out.2.2.1.trans (hB2.mono HQ.out.2.2.1.size)
    have k2 : w2.cell? ⟨hb, 0, none⟩ = some (.slice (some ⟨g, 0, none⟩) nf cp) := by rw [HNF2.out]; exact (blk_cell hI2.box 0).trans rfl
    have kf : w2.frozen? ⟨hb, 0, none⟩ = false := blk_frozen hI2.box 0
    have a0 : w2.cell? ⟨w.heap.size + 1, 0, none⟩ = some (.slice (some ⟨b, o, none⟩) m cp0) := (blk_cell hN2 0).trans rfl
    have a1 : w2.cell? ⟨w.heap.size + 1, 1, none⟩ = some (.int .i64 p0) := (blk_cell hN2 1).trans rfl
    have f0 : w2.frozen? ⟨g, 0, none⟩ = false := hI2.own.frozenAt 0
    have f1 : w2.frozen? ⟨g, 1, none⟩ = false := hI2.own.frozenAt 1
    have HI2 := Aside0.mk hI2
    have HT2 := Aside0.mk (And.intro hT2 hN2)
    have HBW := Aside0.mk hBw2
    have e0 := cell_below hB2 c0
    have e1 := cell_below hB2 c1
    have hmc : m ≤ cp0 := by rw [HM2.out]; exact HFO.out.le
    clear c0 c1 k0 hB2 hN2 hI2 hT2 hBw2 HW1
    by_cases h1 : 1 < m
    · have t1 : decide ((1 : Int) < (m : Int)) = true := decide_eq_true (by omega)
      have HTL := Aside0.mk (HpI.tail HI2.out (by rw [HM2.out] at h1; exact h1) HQ.out.2.2.2.2.2.1 HQ.out.2.2.2.2.1)
      have HPT := Aside0.mk (pop_tail (f := ⟨b, o, cp0, x :: t, p0⟩) (r := r) (by rw [HM2.out] at h1; exact h1))
      have g1 : (1 : Int) ≤ (m : Int) := by omega
      have g2 : ¬ cp0 = 1 := by omega
      go_wp2_with fail
      go_region
      go_upto_region 9 with fail
      have hT3 := HTL.out
      rw [← HM2.out, ← HNF2.out] at hT3
      have hne1 : w.heap.size ≠ g := by have := HGL.out; omega
      have hne2 : w.heap.size + 1 ≠ g := by have := HGL.out; omega
      have hT3a : ((w2.setCell ⟨g, 0, none⟩ (.slice (some ⟨b, o + 7, none⟩) (m - 1) (cp0 - 1))).drew).heap[w.heap.size]? = some (.cells #[.slice none 0 0, .int .u64 0, .bool false, .int .i64 0, .int .u64 0, .int .i64 0, .int .i64 0] 56 (0, 0)) := (Below.heap_setCell w2 ⟨g, 0, none⟩ (.slice (some ⟨b, o + 7, none⟩) (m - 1) (cp0 - 1)) _ hne1).trans HT2.out.1
      have hT3b : ((w2.setCell ⟨g, 0, none⟩ (.slice (some ⟨b, o + 7, none⟩) (m - 1) (cp0 - 1))).drew).heap[w.heap.size + 1]? = some (.cells #[.slice (some ⟨b, o, none⟩) m cp0, .int .i64 p0] 119 (0, 0)) := (Below.heap_setCell w2 ⟨g, 0, none⟩ (.slice (some ⟨b, o + 7, none⟩) (m - 1) (cp0 - 1)) _ hne2).trans HT2.out.2
      have H3 := Aside0.mk (And.intro (hT3.1.below (below_drew (Below.refl _ _))) (And.intro HPT.out (And.intro hT3a (And.intro hT3b
        (And.intro ((Kh.of_below HBW.out).trans ((Kh.grown HI2.out.own (by rw [← HNF2.out]; exact hT3.2)).trans (Kh.of_below (below_drew (Below.refl _ _))))) (And.intro (show (Fe.tl ⟨b, o, cp0, x :: t, p0⟩ :: r).length ≤ (⟨b, o, cp0, x :: t, p0⟩ :: r : List Fe).length from Nat.le_refl _) (show (Fe.tl ⟨b, o, cp0, x :: t, p0⟩ :: r).length ≤ (⟨b, o, cp0, x :: t, p0⟩ :: r : List Fe).length from Nat.le_refl _)))))))
      clear hT3 hT3a hT3b HTL HI2 HPT k2 kf a0 a1 f0 f1 e0 e1
      clear t1 g1 g2 h1
      generalize (w2.setCell ⟨g, 0, none⟩ (.slice (some ⟨b, o + 7, none⟩) (m - 1) (cp0 - 1))).drew = w3 at *
      have HSK := Aside0.mk (msink_c (a := 0) H3.out.1 (by have := H3.out.2.2.2.2.2.1; have := HQ.out.1; omega) (Nat.zero_le _))
      go_upto_region 10 with (first | (go_at_call 55; refine HSK.out.mono ?_; rintro e w4 ⟨fs', rfl, hI4, hs4, hl4, hg4⟩) | fail)
      have hT4 := (hg4.block _ (blk_lt H3.out.2.2.1) (fun e => by have := HGL.out; have e2 : w.heap.size = g := Option.some.inj e; omega)).trans H3.out.2.2.1
      have hU4 := (hg4.block _ (blk_lt H3.out.2.2.2.1) (fun e => by have := HGL.out; have e2 : w.heap.size + 1 = g := Option.some.inj e; omega)).trans H3.out.2.2.2.1
      have hK4 := H3.out.2.2.2.2.1.trans (Kh.grown H3.out.1.own hg4)
      have hE4 := HFO.out.row.below hI4.be
      have hx := hE4.rd x (List.mem_cons_self ..)
      obtain ⟨x0, x1, x2, x3, x4, x5, x6⟩ := hE4.cells (j := 0) (by simp)
      have hkl := HFO.out.rt.kl x (List.mem_cons_self ..)
      have hgd := HFO.out.rt.gd x (List.mem_cons_self ..)
      have hby := HFO.out.rt.byt x (List.mem_cons_self ..)
      have z0 : w4.cell? ⟨w.heap.size + 1, 0, none⟩ = some (.slice (some ⟨b, o, none⟩) m cp0) := (blk_cell hU4 0).trans rfl
      have z1 : w4.cell? ⟨w.heap.size + 1, 1, none⟩ = some (.int .i64 p0) := (blk_cell hU4 1).trans rfl
      have hws : w.heap.size ≤ w4.heap.size := hK4.1
      have hcl : ∀ W, Below w4.heap.size w4 W → Calls Try.prog 56 #[.slice x.A x.k.length x.c] W fun e w' => ∃ A c, e = .returned (.slice A x.k.length c) ∧ w'.ownsRow w.heap.size 5 1 (.slice A x.k.length c) x.k.length (nums .u8 x.k) ∧ Below w4.heap.size w4 w' := fun W hW =>
        (clone_o (c := x.c) (hx.k.below hW) (fun e => by obtain ⟨a, ha⟩ := hx.k.some hkl.1; rw [ha] at e; cases e) (by omega)).mono fun e w' ⟨v, h1, h2, h3⟩ => by
          obtain ⟨A, c, rfl, _, _⟩ := own_rdb h2
          exact ⟨A, c, h1, own_down h2 (Nat.le_trans hws hW.size), hW.trans (h3.mono hW.size)⟩
      have HCL := Aside0.mk hcl
      have HX := Aside0.mk (And.intro hkl (And.intro hgd hby))
      have H4 := Aside0.mk (And.intro hI4 (And.intro hT4 (And.intro hU4 (And.intro hK4 (And.intro hs4 hl4)))))
      have HE4 := Aside0.mk hE4
      clear hkl hgd hby hI4 hT4 hU4 hK4 hs4 hl4 hE4 hcl hx hg4 HSK
      obtain ⟨xA, xc, xk, xa⟩ := x
      obtain ⟨ac, ao, ah, al, an, ax⟩ := xa
      simp only [List.getElem_cons_zero, Nat.zero_mul, Nat.add_zero] at x0 x1 x2 x3 x4 x5 x6 HCL HX
      have hbl : b < w.heap.size := by
        have h9 := World.block_lt_of_cell? _ _ ((HFO.out.row.cells (j := 0) (by simp)).1)
        exact Nat.lt_of_lt_of_le h9 hI0.out.be.size
      have hb1 : ¬ b = w.heap.size := by omega
      have hb5 : ¬ w.heap.size + 1 = w.heap.size := by omega
      have hb2 : ¬ w.heap.size = b := by omega
      have hb3 : ¬ b = w.heap.size + 1 := by omega
      have hb4 : ¬ w.heap.size + 1 = b := by omega
      have hm2 : 0 < m := by omega
      have hm3 : ¬ (m : Int) ≤ 0 := by omega
      clear hnz hmc hne1 hne2 hws hbl
      have dz0 : w4.drew.cell? ⟨w.heap.size + 1, 0, none⟩ = some (.slice (some ⟨b, o, none⟩) m cp0) := z0
      have dz1 : w4.drew.cell? ⟨w.heap.size + 1, 1, none⟩ = some (.int .i64 p0) := z1
      have dx0 : w4.drew.cell? ⟨b, o, none⟩ = some (.slice xA xk.length xc) := x0
      have dx1 : w4.drew.cell? ⟨b, o + 1, none⟩ = some (.int .u64 ac) := x1
      have dx2 : w4.drew.cell? ⟨b, o + 2, none⟩ = some (.bool ao) := x2
      have dx3 : w4.drew.cell? ⟨b, o + 3, none⟩ = some (.int .i64 ah) := x3
      have dx4 : w4.drew.cell? ⟨b, o + 4, none⟩ = some (.int .u64 al) := x4
      have dx5 : w4.drew.cell? ⟨b, o + 5, none⟩ = some (.int .i64 an) := x5
      have dx6 : w4.drew.cell? ⟨b, o + 6, none⟩ = some (.int .i64 ax) := x6
      go_region_held3 (fun w' => w'.cell? ⟨w.heap.size + 1, 0, none⟩ = some (.slice (some ⟨b, o, none⟩) m cp0) ∧ w'.cell? ⟨w.heap.size + 1, 1, none⟩ = some (.int .i64 p0) ∧ w'.cell? ⟨b, o, none⟩ = some (.slice xA xk.length xc) ∧ w'.cell? ⟨b, o + 1, none⟩ = some (.int .u64 ac) ∧ w'.cell? ⟨b, o + 2, none⟩ = some (.bool ao) ∧ w'.cell? ⟨b, o + 3, none⟩ = some (.int .i64 ah) ∧ w'.cell? ⟨b, o + 4, none⟩ = some (.int .u64 al) ∧ w'.cell? ⟨b, o + 5, none⟩ = some (.int .i64 an) ∧ w'.cell? ⟨b, o + 6, none⟩ = some (.int .i64 ax)) (first | exact ⟨(by repeat' (first | with_reducible assumption | with_reducible refine put_far ?_ ?_)), (by repeat' (first | with_reducible assumption | with_reducible refine put_far ?_ ?_)), (by repeat' (first | with_reducible assumption | with_reducible refine put_far ?_ ?_)), (by repeat' (first | with_reducible assumption | with_reducible refine put_far ?_ ?_)), (by repeat' (first | with_reducible assumption | with_reducible refine put_far ?_ ?_)), (by repeat' (first | with_reducible assumption | with_reducible refine put_far ?_ ?_)), (by repeat' (first | with_reducible assumption | with_reducible refine put_far ?_ ?_)), (by repeat' (first | with_reducible assumption | with_reducible refine put_far ?_ ?_)), (by repeat' (first | with_reducible assumption | with_reducible refine put_far ?_ ?_))⟩ | (trace_state; fail)) (first | (go_at_call 56; refine (HCL.out _ (by (repeat' (first | with_reducible exact Below.refl _ _ | with_reducible assumption | with_reducible apply bdrew | with_reducible apply bdrewN | with_reducible apply balloc | with_reducible refine bset ?_ (Nat.le_refl _))))).mono ?_; rintro e w5 ⟨Ak, ck, rfl, ho5, hb5⟩; have yz0 := cell_below hb5 z0; have yz1 := cell_below hb5 z1; have yx0 := cell_below hb5 x0; have yx1 := cell_below hb5 x1; have yx2 := cell_below hb5 x2; have yx3 := cell_below hb5 x3; have yx4 := cell_below hb5 x4; have yx5 := cell_below hb5 x5; have yx6 := cell_below hb5 x6; have HT5 := Aside0.mk ((hb5.block _ (blk_lt H4.out.2.1)).trans H4.out.2.1); have HO5 := Aside0.mk (And.intro ho5 hb5); clear ho5 hb5; have kk0 : w5.cell? ⟨w.heap.size, 0, none⟩ = some (.slice none 0 0) := (blk_cell HT5.out 0).trans rfl; have ff0 : w5.frozen? ⟨w.heap.size, 0, none⟩ = false := blk_frozen HT5.out 0; have kk1 : w5.cell? ⟨w.heap.size, 1, none⟩ = some (.int .u64 0) := (blk_cell HT5.out 1).trans rfl; have ff1 : w5.frozen? ⟨w.heap.size, 1, none⟩ = false := blk_frozen HT5.out 1; have kk2 : w5.cell? ⟨w.heap.size, 2, none⟩ = some (.bool false) := (blk_cell HT5.out 2).trans rfl; have ff2 : w5.frozen? ⟨w.heap.size, 2, none⟩ = false := blk_frozen HT5.out 2; have kk3 : w5.cell? ⟨w.heap.size, 3, none⟩ = some (.int .i64 0) := (blk_cell HT5.out 3).trans rfl; have ff3 : w5.frozen? ⟨w.heap.size, 3, none⟩ = false := blk_frozen HT5.out 3; have kk4 : w5.cell? ⟨w.heap.size, 4, none⟩ = some (.int .u64 0) := (blk_cell HT5.out 4).trans rfl; have ff4 : w5.frozen? ⟨w.heap.size, 4, none⟩ = false := blk_frozen HT5.out 4; have kk5 : w5.cell? ⟨w.heap.size, 5, none⟩ = some (.int .i64 0) := (blk_cell HT5.out 5).trans rfl; have ff5 : w5.frozen? ⟨w.heap.size, 5, none⟩ = false := blk_frozen HT5.out 5; have kk6 : w5.cell? ⟨w.heap.size, 6, none⟩ = some (.int .i64 0) := (blk_cell HT5.out 6).trans rfl; have ff6 : w5.frozen? ⟨w.heap.size, 6, none⟩ = false := blk_frozen HT5.out 6))
      all_goals
        have hP := put7 (e := w.heap.size) (a := ⟨ac, ao, ah, al, an, ax⟩) (H4.out.1.below HO5.out.2) HT5.out (H4.out.2.2.2.1.trans (Kh.of_below HO5.out.2)) (Nat.le_refl _) hI0.out.be.size HO5.out.1
        unfold putE at hP
        have HP := Aside0.mk hP
        clear hP
        go_wp2_with fail
        refine bodyPost_ret (results3_row rfl _ _ w.heap.size 56 _ (0, 0) _ rfl HP.out.1 Try.underlying56 rfl (by kernel_rfl)) rfl ?_
        exact ⟨Ak, ck, xk, ⟨ac, ao, ah, al, an, ax⟩, (p0 : Int), fs', _, rfl, rfl, HP.out.2.1, by rw [H4.out.2.2.2.2.1, H3.out.2.1], Nat.le_trans (Nat.le_of_eq H4.out.2.2.2.2.2) H3.out.2.2.2.2.2.2, HP.out.2.2.2, HX.out.2.1, HX.out.2.2, HX.out.1, HP.out.2.2.1⟩
    · obtain ⟨n, hnn⟩ : ∃ n, n = r.length := ⟨_, rfl⟩
      have hnf : nf = n + 1 := by rw [HNF2.out, hnn, List.length_cons]
      have t1 : decide ((1 : Int) < (m : Int)) = false := decide_eq_false (by omega)
      have hlt2 : n < (⟨b, o, cp0, x :: t, p0⟩ :: r : List Fe).length := by rw [List.length_cons]; omega
      obtain ⟨l, hl⟩ : ∃ l, (⟨b, o, cp0, x :: t, p0⟩ :: r : List Fe)[n]? = some l := ⟨_, List.getElem?_eq_getElem hlt2⟩
      have hd0 := HI2.out.own.cellAt (n * 2) (by rw [List.length_cons]; omega)
      have hd1 := HI2.out.own.cellAt (n * 2 + 1) (by rw [List.length_cons]; omega)
      have e2 := fflat_get (⟨b, o, cp0, x :: t, p0⟩ :: r) n 0 hlt2 (by omega)
      have e3 := fflat_get (⟨b, o, cp0, x :: t, p0⟩ :: r) n 1 hlt2 (by omega)
      rw [(List.getElem?_eq_some_iff.1 hl).2, Nat.add_zero] at e2
      rw [(List.getElem?_eq_some_iff.1 hl).2] at e3
      rw [e2] at hd0
      rw [e3] at hd1
      have HDR := Aside0.mk (HpI.drop' (n := n) HI2.out (by rw [List.length_cons]; omega) hl HQ.out.2.2.2.2.2.1 HQ.out.2.2.2.2.1)
      have HPD := Aside0.mk (pop_drop' (f := ⟨b, o, cp0, x :: t, p0⟩) (r := r) (l := l) (by rw [HM2.out] at h1; exact h1) (by rw [← hnn]; exact hl))
      have HNN := Aside0.mk (And.intro hnn (And.intro hnf hlt2))
      have hw1 : IntKind.i64.wrap ((nf : Int) - 1) = (n : Int) := by have := HQ.out.1; rw [← HNF2.out] at this; rw [IntKind.wrap_i64]; omega
      have hni : (n : Int) < (nf : Int) := by omega
      have hnc : (n : Int) ≤ (cp : Int) := by have := HQ.out.2.2.2.2.2.2; rw [← HNF2.out] at this; omega
      have hn0 : (0 : Int) ≤ (n : Int) := by omega
      have hghb : ¬ hb = g := fun e => HQ.out.2.2.2.2.2.1 e.symm
      have d0 : w2.cell? ⟨g, n * 2, none⟩ = some (.slice (some ⟨l.b, l.o, none⟩) l.es.length l.cp) := hd0
      have d1 : w2.cell? ⟨g, n * 2 + 1, none⟩ = some (.int .i64 l.p) := hd1
      clear hd0 hd1 e2 e3 hnn hnf hl hlt2
      go_wp2_with fail
      go_region
      go_upto_region 9 with fail
      obtain ⟨hT3, hT3g, hT3b⟩ := HDR.out
      have hne1 : w.heap.size ≠ g := by have := HGL.out; omega
      have hne2 : w.heap.size + 1 ≠ g := by have := HGL.out; omega
      have hhb : hb < w.heap.size := blk_lt hI0.out.box
      have hne3 : w.heap.size ≠ hb := by omega
      have hne4 : w.heap.size + 1 ≠ hb := by omega
      have hK3 : Kh w ((w2.setCell ⟨g, 0, none⟩ (.slice (some ⟨l.b, l.o, none⟩) l.es.length l.cp)).setCell ⟨g, 1, none⟩ (.int .i64 l.p)) := (Kh.of_below HBW.out).trans (Kh.grown HI2.out.own hT3g)
      have hT3c : ((((w2.setCell ⟨g, 0, none⟩ (.slice (some ⟨l.b, l.o, none⟩) l.es.length l.cp)).setCell ⟨g, 1, none⟩ (.int .i64 l.p)).setCell ⟨hb, 0, none⟩ (.slice (some ⟨g, 0, none⟩) n cp)).drew).heap[w.heap.size]? = some (.cells #[.slice none 0 0, .int .u64 0, .bool false, .int .i64 0, .int .u64 0, .int .i64 0, .int .i64 0] 56 (0, 0)) := (Below.heap_setCell ((w2.setCell ⟨g, 0, none⟩ (.slice (some ⟨l.b, l.o, none⟩) l.es.length l.cp)).setCell ⟨g, 1, none⟩ (.int .i64 l.p)) ⟨hb, 0, none⟩ (.slice (some ⟨g, 0, none⟩) n cp) _ hne3).trans (((hT3g.block _ (blk_lt HT2.out.1) (fun e => hne1 (Option.some.inj e))).trans HT2.out.1))
      have hT3d : ((((w2.setCell ⟨g, 0, none⟩ (.slice (some ⟨l.b, l.o, none⟩) l.es.length l.cp)).setCell ⟨g, 1, none⟩ (.int .i64 l.p)).setCell ⟨hb, 0, none⟩ (.slice (some ⟨g, 0, none⟩) n cp)).drew).heap[w.heap.size + 1]? = some (.cells #[.slice (some ⟨b, o, none⟩) m cp0, .int .i64 p0] 119 (0, 0)) := (Below.heap_setCell ((w2.setCell ⟨g, 0, none⟩ (.slice (some ⟨l.b, l.o, none⟩) l.es.length l.cp)).setCell ⟨g, 1, none⟩ (.int .i64 l.p)) ⟨hb, 0, none⟩ (.slice (some ⟨g, 0, none⟩) n cp) _ hne4).trans (((hT3g.block _ (blk_lt HT2.out.2) (fun e => hne2 (Option.some.inj e))).trans HT2.out.2))
      have hfl : (((⟨b, o, cp0, x :: t, p0⟩ :: r : List Fe).set 0 l).take n).length ≤ (⟨b, o, cp0, x :: t, p0⟩ :: r : List Fe).length := by rw [List.length_take, List.length_set]; omega
      have hpd := HPD.out
      rw [← HNN.out.1] at hpd
      have H3 := Aside0.mk (And.intro (show HpI hb w0 _ _ ((((w2.setCell ⟨g, 0, none⟩ (.slice (some ⟨l.b, l.o, none⟩) l.es.length l.cp)).setCell ⟨g, 1, none⟩ (.int .i64 l.p)).setCell ⟨hb, 0, none⟩ (.slice (some ⟨g, 0, none⟩) n cp)).drew) from hT3.below (below_drew (Below.refl _ _))) (And.intro hpd (And.intro hT3c (And.intro hT3d (And.intro (show Kh w ((((w2.setCell ⟨g, 0, none⟩ (.slice (some ⟨l.b, l.o, none⟩) l.es.length l.cp)).setCell ⟨g, 1, none⟩ (.int .i64 l.p)).setCell ⟨hb, 0, none⟩ (.slice (some ⟨g, 0, none⟩) n cp)).drew) from (Kh.box hK3 hT3b).trans (Kh.of_below (below_drew (Below.refl _ _)))) (And.intro hfl hfl))))))
      clear hT3 hT3g hT3b hT3c hT3d hfl hpd hK3 hne3 hne4 hhb HDR HI2 HPD k2 kf a0 a1 f0 f1 e0 e1 d0 d1 hw1 hni hnc hn0 hghb t1 h1
      generalize ((((w2.setCell ⟨g, 0, none⟩ (.slice (some ⟨l.b, l.o, none⟩) l.es.length l.cp)).setCell ⟨g, 1, none⟩ (.int .i64 l.p)).setCell ⟨hb, 0, none⟩ (.slice (some ⟨g, 0, none⟩) n cp)).drew) = w3 at *
      have HSK := Aside0.mk (msink_c (a := 0) H3.out.1 (by have := H3.out.2.2.2.2.2.1; have := HQ.out.1; omega) (Nat.zero_le _))
      go_upto_region 10 with (first | (go_at_call 55; refine HSK.out.mono ?_; rintro e w4 ⟨fs', rfl, hI4, hs4, hl4, hg4⟩) | fail)
      have hT4 := (hg4.block _ (blk_lt H3.out.2.2.1) (fun e => by have := HGL.out; have e2 : w.heap.size = g := Option.some.inj e; omega)).trans H3.out.2.2.1
      have hU4 := (hg4.block _ (blk_lt H3.out.2.2.2.1) (fun e => by have := HGL.out; have e2 : w.heap.size + 1 = g := Option.some.inj e; omega)).trans H3.out.2.2.2.1
      have hK4 := H3.out.2.2.2.2.1.trans (Kh.grown H3.out.1.own hg4)
      have hE4 := HFO.out.row.below hI4.be
      have hx := hE4.rd x (List.mem_cons_self ..)
      obtain ⟨x0, x1, x2, x3, x4, x5, x6⟩ := hE4.cells (j := 0) (by simp)
      have hkl := HFO.out.rt.kl x (List.mem_cons_self ..)
      have hgd := HFO.out.rt.gd x (List.mem_cons_self ..)
      have hby := HFO.out.rt.byt x (List.mem_cons_self ..)
      have z0 : w4.cell? ⟨w.heap.size + 1, 0, none⟩ = some (.slice (some ⟨b, o, none⟩) m cp0) := (blk_cell hU4 0).trans rfl
      have z1 : w4.cell? ⟨w.heap.size + 1, 1, none⟩ = some (.int .i64 p0) := (blk_cell hU4 1).trans rfl
      have hws : w.heap.size ≤ w4.heap.size := hK4.1
      have hcl : ∀ W, Below w4.heap.size w4 W → Calls Try.prog 56 #[.slice x.A x.k.length x.c] W fun e w' => ∃ A c, e = .returned (.slice A x.k.length c) ∧ w'.ownsRow w.heap.size 5 1 (.slice A x.k.length c) x.k.length (nums .u8 x.k) ∧ Below w4.heap.size w4 w' := fun W hW =>
        (clone_o (c := x.c) (hx.k.below hW) (fun e => by obtain ⟨a, ha⟩ := hx.k.some hkl.1; rw [ha] at e; cases e) (by omega)).mono fun e w' ⟨v, h1, h2, h3⟩ => by
          obtain ⟨A, c, rfl, _, _⟩ := own_rdb h2
          exact ⟨A, c, h1, own_down h2 (Nat.le_trans hws hW.size), hW.trans (h3.mono hW.size)⟩
      have HCL := Aside0.mk hcl
      have HX := Aside0.mk (And.intro hkl (And.intro hgd hby))
      have H4 := Aside0.mk (And.intro hI4 (And.intro hT4 (And.intro hU4 (And.intro hK4 (And.intro hs4 hl4)))))
      have HE4 := Aside0.mk hE4
      clear hkl hgd hby hI4 hT4 hU4 hK4 hs4 hl4 hE4 hcl hx hg4 HSK
      obtain ⟨xA, xc, xk, xa⟩ := x
      obtain ⟨ac, ao, ah, al, an, ax⟩ := xa
      simp only [List.getElem_cons_zero, Nat.zero_mul, Nat.add_zero] at x0 x1 x2 x3 x4 x5 x6 HCL HX
      have hbl : b < w.heap.size := by
        have h9 := World.block_lt_of_cell? _ _ ((HFO.out.row.cells (j := 0) (by simp)).1)
        exact Nat.lt_of_lt_of_le h9 hI0.out.be.size
      have hb1 : ¬ b = w.heap.size := by omega
      have hb5 : ¬ w.heap.size + 1 = w.heap.size := by omega
      have hb2 : ¬ w.heap.size = b := by omega
      have hb3 : ¬ b = w.heap.size + 1 := by omega
      have hb4 : ¬ w.heap.size + 1 = b := by omega
      have hm2 : 0 < m := by omega
      have hm3 : ¬ (m : Int) ≤ 0 := by omega
      clear hnz hmc hne1 hne2 hws hbl
      have dz0 : w4.drew.cell? ⟨w.heap.size + 1, 0, none⟩ = some (.slice (some ⟨b, o, none⟩) m cp0) := z0
      have dz1 : w4.drew.cell? ⟨w.heap.size + 1, 1, none⟩ = some (.int .i64 p0) := z1
      have dx0 : w4.drew.cell? ⟨b, o, none⟩ = some (.slice xA xk.length xc) := x0
      have dx1 : w4.drew.cell? ⟨b, o + 1, none⟩ = some (.int .u64 ac) := x1
      have dx2 : w4.drew.cell? ⟨b, o + 2, none⟩ = some (.bool ao) := x2
      have dx3 : w4.drew.cell? ⟨b, o + 3, none⟩ = some (.int .i64 ah) := x3
      have dx4 : w4.drew.cell? ⟨b, o + 4, none⟩ = some (.int .u64 al) := x4
      have dx5 : w4.drew.cell? ⟨b, o + 5, none⟩ = some (.int .i64 an) := x5
      have dx6 : w4.drew.cell? ⟨b, o + 6, none⟩ = some (.int .i64 ax) := x6
      go_region_held3 (fun w' => w'.cell? ⟨w.heap.size + 1, 0, none⟩ = some (.slice (some ⟨b, o, none⟩) m cp0) ∧ w'.cell? ⟨w.heap.size + 1, 1, none⟩ = some (.int .i64 p0) ∧ w'.cell? ⟨b, o, none⟩ = some (.slice xA xk.length xc) ∧ w'.cell? ⟨b, o + 1, none⟩ = some (.int .u64 ac) ∧ w'.cell? ⟨b, o + 2, none⟩ = some (.bool ao) ∧ w'.cell? ⟨b, o + 3, none⟩ = some (.int .i64 ah) ∧ w'.cell? ⟨b, o + 4, none⟩ = some (.int .u64 al) ∧ w'.cell? ⟨b, o + 5, none⟩ = some (.int .i64 an) ∧ w'.cell? ⟨b, o + 6, none⟩ = some (.int .i64 ax)) (first | exact ⟨(by repeat' (first | with_reducible assumption | with_reducible refine put_far ?_ ?_)), (by repeat' (first | with_reducible assumption | with_reducible refine put_far ?_ ?_)), (by repeat' (first | with_reducible assumption | with_reducible refine put_far ?_ ?_)), (by repeat' (first | with_reducible assumption | with_reducible refine put_far ?_ ?_)), (by repeat' (first | with_reducible assumption | with_reducible refine put_far ?_ ?_)), (by repeat' (first | with_reducible assumption | with_reducible refine put_far ?_ ?_)), (by repeat' (first | with_reducible assumption | with_reducible refine put_far ?_ ?_)), (by repeat' (first | with_reducible assumption | with_reducible refine put_far ?_ ?_)), (by repeat' (first | with_reducible assumption | with_reducible refine put_far ?_ ?_))⟩ | (trace_state; fail)) (first | (go_at_call 56; refine (HCL.out _ (by (repeat' (first | with_reducible exact Below.refl _ _ | with_reducible assumption | with_reducible apply bdrew | with_reducible apply bdrewN | with_reducible apply balloc | with_reducible refine bset ?_ (Nat.le_refl _))))).mono ?_; rintro e w5 ⟨Ak, ck, rfl, ho5, hb5⟩; have yz0 := cell_below hb5 z0; have yz1 := cell_below hb5 z1; have yx0 := cell_below hb5 x0; have yx1 := cell_below hb5 x1; have yx2 := cell_below hb5 x2; have yx3 := cell_below hb5 x3; have yx4 := cell_below hb5 x4; have yx5 := cell_below hb5 x5; have yx6 := cell_below hb5 x6; have HT5 := Aside0.mk ((hb5.block _ (blk_lt H4.out.2.1)).trans H4.out.2.1); have HO5 := Aside0.mk (And.intro ho5 hb5); clear ho5 hb5; have kk0 : w5.cell? ⟨w.heap.size, 0, none⟩ = some (.slice none 0 0) := (blk_cell HT5.out 0).trans rfl; have ff0 : w5.frozen? ⟨w.heap.size, 0, none⟩ = false := blk_frozen HT5.out 0; have kk1 : w5.cell? ⟨w.heap.size, 1, none⟩ = some (.int .u64 0) := (blk_cell HT5.out 1).trans rfl; have ff1 : w5.frozen? ⟨w.heap.size, 1, none⟩ = false := blk_frozen HT5.out 1; have kk2 : w5.cell? ⟨w.heap.size, 2, none⟩ = some (.bool false) := (blk_cell HT5.out 2).trans rfl; have ff2 : w5.frozen? ⟨w.heap.size, 2, none⟩ = false := blk_frozen HT5.out 2; have kk3 : w5.cell? ⟨w.heap.size, 3, none⟩ = some (.int .i64 0) := (blk_cell HT5.out 3).trans rfl; have ff3 : w5.frozen? ⟨w.heap.size, 3, none⟩ = false := blk_frozen HT5.out 3; have kk4 : w5.cell? ⟨w.heap.size, 4, none⟩ = some (.int .u64 0) := (blk_cell HT5.out 4).trans rfl; have ff4 : w5.frozen? ⟨w.heap.size, 4, none⟩ = false := blk_frozen HT5.out 4; have kk5 : w5.cell? ⟨w.heap.size, 5, none⟩ = some (.int .i64 0) := (blk_cell HT5.out 5).trans rfl; have ff5 : w5.frozen? ⟨w.heap.size, 5, none⟩ = false := blk_frozen HT5.out 5; have kk6 : w5.cell? ⟨w.heap.size, 6, none⟩ = some (.int .i64 0) := (blk_cell HT5.out 6).trans rfl; have ff6 : w5.frozen? ⟨w.heap.size, 6, none⟩ = false := blk_frozen HT5.out 6))
      all_goals
        have hP := put7 (e := w.heap.size) (a := ⟨ac, ao, ah, al, an, ax⟩) (H4.out.1.below HO5.out.2) HT5.out (H4.out.2.2.2.1.trans (Kh.of_below HO5.out.2)) (Nat.le_refl _) hI0.out.be.size HO5.out.1
        unfold putE at hP
        have HP := Aside0.mk hP
        clear hP
        go_wp2_with fail
        refine bodyPost_ret (results3_row rfl _ _ w.heap.size 56 _ (0, 0) _ rfl HP.out.1 Try.underlying56 rfl (by kernel_rfl)) rfl ?_
        exact ⟨Ak, ck, xk, ⟨ac, ao, ah, al, an, ax⟩, (p0 : Int), fs', _, rfl, rfl, HP.out.2.1, by rw [H4.out.2.2.2.2.1, H3.out.2.1], Nat.le_trans (Nat.le_of_eq H4.out.2.2.2.2.2) H3.out.2.2.2.2.2.2, HP.out.2.2.2, HX.out.2.1, HX.out.2.2, HX.out.1, HP.out.2.2.1⟩
/-- What merge.All's loop holds. -/
structure AlI (hb : Nat) (w : World) (T : Kv) (fs : List Fe) (vv : Value) (outs : List Ent) (o : Value) (W : World) : Prop where
  hp : HpI hb w fs vv W
  own : W.ownsRow w.heap.size 56 7 o outs.length (outs.flatMap Ent.cells)
  rd : ∀ x ∈ outs, EntOk w.heap.size W x
  ok : ∀ x ∈ outs, Gd x.a ∧ Byt x.k ∧ (0 < x.k.length ∧ x.k.length ≤ 1000000)
  kv : allL (sizes (fs.map Fe.fr)) (fs.map Fe.fr) (outs.map Ent.ka) = T
  n : outs.length + sizes (fs.map Fe.fr) ≤ 4096
  fl : fs.length ≤ 100
theorem pop_sizes {f : Fe} {r fs' : List Fe} (hne : f.es ≠ []) (hfs : fs'.map Fe.fr = snk (popL ((f :: r).map Fe.fr)) 0) : sizes (fs'.map Fe.fr) + 1 = sizes ((f :: r).map Fe.fr) := by
  rw [hfs, snk_sizes]
  exact popL_sizes (fun e => hne (List.map_eq_nil_iff.1 e))
theorem pop_kv {f : Fe} {r fs' : List Fe} {out T : Kv} {x : List Int × Ag} (hne : f.es ≠ []) (hfs : fs'.map Fe.fr = snk (popL ((f :: r).map Fe.fr)) 0) (hx : x = hdF ((f :: r).map Fe.fr)) (h : allL (sizes ((f :: r).map Fe.fr)) ((f :: r).map Fe.fr) out = T) : allL (sizes (fs'.map Fe.fr)) (fs'.map Fe.fr) (addK out x) = T := by
  have hs := pop_sizes hne hfs
  rw [← hs, allL, if_neg (by simp)] at h
  rw [hfs, hx, ← hfs]
  rw [← hfs] at h
  exact h
theorem AlI.next {hb : Nat} {w W W3 : World} {T : Kv} {fs : List Fe} {vv o o3 : Value} {n : Nat} {xs : List Value} {outs3 : List Ent} (hp : HpI hb w fs vv W) (own : W.ownsRow w.heap.size 56 7 o n xs) (hg : W.grownBy W3 o.ownBlock)
    (own3 : W3.ownsRow w.heap.size 56 7 o3 outs3.length (outs3.flatMap Ent.cells)) (rd : ∀ x ∈ outs3, EntOk w.heap.size W x) (ok : ∀ x ∈ outs3, Gd x.a ∧ Byt x.k ∧ (0 < x.k.length ∧ x.k.length ≤ 1000000))
    (kv : allL (sizes (fs.map Fe.fr)) (fs.map Fe.fr) (outs3.map Ent.ka) = T) (hn : outs3.length + sizes (fs.map Fe.fr) ≤ 4096) (fl : fs.length ≤ 100) : AlI hb w T fs vv outs3 o3 W3 := by
  have hk := Ke.grown own hg
  refine ⟨⟨(hk.2 hb _ _ hp.box (by decide)).trans hp.box, hk.own (by decide) hp.own, hp.ok, hp.be.trans ⟨hg.os, hg.tape, hg.output, hg.size, fun k hk => hg.block k (Nat.lt_of_lt_of_le hk hp.be.size) (fun e => ?_)⟩, hp.nh⟩, own3, fun x hx => hk.own (by decide) (rd x hx), ok, kv, hn, fl⟩
  have := (own.lt k e.symm).1
  omega
theorem addK_nil (x : List Int × Ag) : addK [] x = [x] := rfl
theorem addK_eq {P : Kv} {y x : List Int × Ag} (h : y.1 = x.1) : addK (P ++ [y]) x = P ++ [(y.1, mergeF y.2 x.2)] := by
  unfold addK
  simp [h]
theorem addK_ne {P : Kv} {y x : List Int × Ag} (h : y.1 ≠ x.1) : addK (P ++ [y]) x = P ++ [y] ++ [x] := by
  unfold addK
  simp [h]
theorem row_sizes (rows : List Re) : sizes (newF (rows.map Re.kv)) = (rows.map (fun r => r.es.length)).sum := by
  rw [new_sizes, List.map_map]
  congr 1
  apply List.map_congr_left
  intro r _
  simp [Re.kv]
/-- A row of entries behind a slice. -/
theorem own_row {W : World} {B : Nat} {o : Value} {outs : List Ent} (h : W.ownsRow B 56 7 o outs.length (outs.flatMap Ent.cells)) (hrd : ∀ x ∈ outs, EntOk B W x) : ∃ (A : Option Addr) (g cp : Nat), o = .slice A outs.length cp ∧ outs.length ≤ cp ∧ cp ≤ 9223372036854775807 ∧ (outs ≠ [] → A = some ⟨g, 0, none⟩ ∧ B ≤ g) ∧ EnRow W g 0 outs := by
  have hrd : ∀ x ∈ outs, x.rw W := fun x hx => (hrd x hx).rw
  rcases h.2 with ⟨e, h0⟩ | ⟨g, cp, cur, e, hg, hb, h1, h2, h3, h4⟩
  · have : outs = [] := List.length_eq_zero_iff.1 h0
    subst this
    exact ⟨none, 0, 0, e, Nat.le_refl _, by omega, fun h => absurd rfl h, ⟨fun j hj => by simp at hj, hrd⟩⟩
  · refine ⟨some ⟨g, 0, none⟩, g, cp, e, h1, by simp only [maxLen] at h2; omega, fun _ => ⟨rfl, hg⟩, ⟨fun j hj m u hu => ?_, hrd⟩⟩
    have hm : m < 7 := by have := (List.getElem?_eq_some_iff.1 hu).1; simpa [Ent.cells] using this
    have := (e ▸ h).cellAt (j * 7 + m) (by omega)
    rw [show 0 + j * 7 + m = j * 7 + m by omega, this, flat_get outs j m hj hm]
    exact hu
/-- What merge.All gives. -/
def AllR (w : World) (T : Kv) (e : Ending) (w' : World) : Prop :=
  ∃ (v : Value) (outs : List Ent), e = .returned (.tuple #[v, .int .i64 0]) ∧ w'.ownsRow w.heap.size 56 7 v outs.length (outs.flatMap Ent.cells) ∧ outs.map Ent.ka = T ∧ (∀ x ∈ outs, EntOk w.heap.size w' x) ∧
      (∀ x ∈ outs, Gd x.a ∧ Byt x.k ∧ (0 < x.k.length ∧ x.k.length ≤ 1000000)) ∧ outs.length ≤ 4096 ∧ Below w.heap.size w w'
set_option maxRecDepth 100000 in
set_option maxHeartbeats 8000000 in
theorem mall_c {w : World} {RR : Option Addr} {rb ro rc : Nat} {rows : List Re} (hR : rows ≠ [] → RR = some ⟨rb, ro, none⟩) (h : ReRow w rb ro rows) (hn : rows.length ≤ 100) (hs : (rows.map (fun r => r.es.length)).sum ≤ 4096) :
    Calls Try.prog 14 #[.slice RR rows.length rc] w (AllR w (allF (rows.map Re.kv))) := by
  have HNW := Aside0.mk (mnew_c (rc := rc) hR h hn)
  have HS := Aside0.mk (And.intro hs (row_sizes rows))
  clear hR h hs
  go_enter Try.func14, Try.ntmps14
  go_wp2_with (first
    | (go_at_call 29
       refine HNW.out.mono ?_
       rintro e w2 ⟨fs, vv, rfl, hp, hkv, hfl⟩
       have HA0 := Aside0.mk (show AlI w.heap.size w (allF (rows.map Re.kv)) fs vv [] (.slice none 0 0) w2 from ⟨hp, World.ownsRow_nil _ _ _ _, fun x hx => by simp at hx, fun x hx => by simp at hx, by rw [hkv]; rfl, by rw [hkv, HS.out.2]; have := HS.out.1; simpa using this, by omega⟩)
       clear hp hkv hfl)
    | fail)
  clear HNW
  go_loopg [6] (sizes (fs.map Fe.fr)) (fun m o wr => ∃ fs vv outs, Aside0 (AlI w.heap.size w (allF (rows.map Re.kv)) fs vv outs o wr) ∧ Aside0 (m = sizes (fs.map Fe.fr)))
  case atStart => exact ⟨fs, vv, [], HA0, ⟨rfl⟩⟩
  case round =>
    clear HA0
    obtain ⟨fs, vv, outs, HA, HM⟩ := hrel
    cases fs with
    | nil =>
      have HN := Aside0.mk (mnext_none HA.out.hp)
      go_wp2_with (first
        | (go_at_call 30
           refine HN.out.mono ?_
           rintro e w3 ⟨rfl, hb3⟩
           have HB3 := Aside0.mk hb3
           clear hb3)
        | fail)
      go_ret2
      have hkv := HA.out.kv
      exact ⟨u6, outs, rfl, own_below HA.out.own (HB3.out.alloc HB3.out.size _), hkv, fun x hx => own_below (HA.out.rd x hx) (HB3.out.alloc HB3.out.size _), HA.out.ok, by have := HA.out.n; omega, HA.out.hp.be.trans ((HB3.out.alloc HB3.out.size _).mono HA.out.hp.be.size)⟩
    | cons f r =>
      have HN := Aside0.mk (mnext_c HA.out.hp (by have := HA.out.fl; omega))
      obtain ⟨A0, g, cp, rfl, hle0, hcp0, hA0, hrow0⟩ := own_row HA.out.own HA.out.rd
      have HR0 := Aside0.mk (And.intro hle0 (And.intro hcp0 (And.intro hA0 hrow0)))
      have HLN := Aside0.mk HA.out.n
      clear hle0 hcp0 hA0 hrow0
      obtain ⟨nn, hnn⟩ : ∃ n, n = outs.length := ⟨_, rfl⟩
      have HNN := Aside0.mk hnn
      rw [← hnn]
      clear hnn
      go_upto_region 8 with (first
        | (go_at_call 30
           refine HN.out.mono ?_
           rintro e w3 ⟨A, c, k, a, p, fs', v', rfl, hka, hp3, hfs3, hfl3, hen3, hgd3, hbyt3, hkl3, hkh3⟩
           unfold entV
           obtain ⟨ac, ao, ah, al, an, ax⟩ := a
           have HQ := Aside0.mk (And.intro hka (And.intro hp3 (And.intro hfs3 (And.intro hfl3 (And.intro hen3 (And.intro hgd3 (And.intro hbyt3 (And.intro hkl3 hkh3))))))))
           clear hka hp3 hfs3 hfl3 hen3 hgd3 hbyt3 hkl3 hkh3)
        | fail)
      obtain ⟨hka, hp3, hfs3, hfl3, hen3, hgd3, hbyt3, hkl3, hkh3⟩ := HQ.out
      have hne := (HA.out.hp.ok f (List.mem_cons_self ..)).ne
      have hsz := pop_sizes hne hfs3
      have hkv := pop_kv hne hfs3 hka HA.out.kv
      have hB4 := (Below.refl _ w3).alloc (Nat.le_refl _) (.cells #[.slice A k.length c, .int .u64 ac, .bool ao, .int .i64 ah, .int .u64 al, .int .i64 an, .int .i64 ax] 56)
      have hN4 := al_new (W := w3) (o := .cells #[.slice A k.length c, .int .u64 ac, .bool ao, .int .i64 ah, .int .u64 al, .int .i64 an, .int .i64 ax] 56) (k := w3.heap.size) rfl
      have hp4 := hp3.below hB4
      have hown4 := own_below (hkh3.own (by decide) (by decide) HA.out.own) hB4
      have hrd4 : ∀ x ∈ outs, EntOk w.heap.size (w3.alloc (.cells #[.slice A k.length c, .int .u64 ac, .bool ao, .int .i64 ah, .int .u64 al, .int .i64 an, .int .i64 ax] 56)) x := fun x hx => own_below (hkh3.own (by decide) (by decide) (HA.out.rd x hx)) hB4
      have hx4 := own_below (own_down hen3 HA.out.hp.be.size) hB4
      have hws : w.heap.size ≤ w3.heap.size := Nat.le_trans HA.out.hp.be.size hkh3.1
      have hs4 : (w3.alloc (.cells #[.slice A k.length c, .int .u64 ac, .bool ao, .int .i64 ah, .int .u64 al, .int .i64 an, .int .i64 ax] 56)).heap.size = w3.heap.size + 1 := World.size_alloc _ _
      obtain ⟨tb, htb⟩ : ∃ tb, tb = w3.heap.size := ⟨_, rfl⟩
      rw [← htb] at hN4 hws hs4 ⊢
      generalize w3.alloc (.cells #[.slice A k.length c, .int .u64 ac, .bool ao, .int .i64 ah, .int .u64 al, .int .i64 an, .int .i64 ax] 56) = w4 at *
      have H4 := Aside0.mk (And.intro hp4 (And.intro hown4 (And.intro hrd4 (And.intro hx4 (And.intro hN4 (And.intro hws hs4))))))
      have HS4 := Aside0.mk (And.intro hsz (And.intro hkv (And.intro hgd3 (And.intro hbyt3 (And.intro hkl3 hfl3)))))
      have z0 : w4.cell? ⟨tb, 0, none⟩ = some (.slice A k.length c) := (blk_cell hN4 0).trans rfl
      have z1 : w4.cell? ⟨tb, 1, none⟩ = some (.int .u64 ac) := (blk_cell hN4 1).trans rfl
      have z2 : w4.cell? ⟨tb, 2, none⟩ = some (.bool ao) := (blk_cell hN4 2).trans rfl
      have z3 : w4.cell? ⟨tb, 3, none⟩ = some (.int .i64 ah) := (blk_cell hN4 3).trans rfl
      have z4 : w4.cell? ⟨tb, 4, none⟩ = some (.int .u64 al) := (blk_cell hN4 4).trans rfl
      have z5 : w4.cell? ⟨tb, 5, none⟩ = some (.int .i64 an) := (blk_cell hN4 5).trans rfl
      have z6 : w4.cell? ⟨tb, 6, none⟩ = some (.int .i64 ax) := (blk_cell hN4 6).trans rfl
      have HKH := Aside0.mk hkh3
      clear hka hp3 hfs3 hfl3 hen3 hgd3 hbyt3 hkl3 hkh3 HN hp4 hown4 hrd4 hx4 hN4 hws hs4 hB4 hsz hkv hne HQ
      have HTB := Aside0.mk (And.intro htb HKH.out.1)
      clear htb
      rcases List.eq_nil_or_concat outs with rfl | ⟨P, y, rfl⟩
      · have hnn : nn = 0 := HNN.out
        subst hnn
        go_wp2_with fail
        go_region
        go_upto_region 11 with fail
        have hbd : Below w4.heap.size w4 w4.drew := by (repeat' (first | with_reducible exact Below.refl _ _ | with_reducible assumption | with_reducible apply bdrew | with_reducible apply bdrewN | with_reducible apply balloc | with_reducible refine bset ?_ (Nat.le_refl _)))
        replace z0 : w4.drew.cell? ⟨tb, 0, none⟩ = some (.slice A k.length c) := cell_below hbd z0
        replace z1 : w4.drew.cell? ⟨tb, 1, none⟩ = some (.int .u64 ac) := cell_below hbd z1
        replace z2 : w4.drew.cell? ⟨tb, 2, none⟩ = some (.bool ao) := cell_below hbd z2
        replace z3 : w4.drew.cell? ⟨tb, 3, none⟩ = some (.int .i64 ah) := cell_below hbd z3
        replace z4 : w4.drew.cell? ⟨tb, 4, none⟩ = some (.int .u64 al) := cell_below hbd z4
        replace z5 : w4.drew.cell? ⟨tb, 5, none⟩ = some (.int .i64 an) := cell_below hbd z5
        replace z6 : w4.drew.cell? ⟨tb, 6, none⟩ = some (.int .i64 ax) := cell_below hbd z6
        have h5p := H4.out.1.below hbd
        have h5o0 := H4.out.2.1
        rw [← HNN.out] at h5o0
        have h5o := own_below h5o0 hbd
        have h5r : ∀ x ∈ ([] : List Ent), EntOk w.heap.size w4.drew x := fun x hx => own_below (H4.out.2.2.1 x hx) hbd
        have h5x := own_below H4.out.2.2.2.1 hbd
        have h5s := hbd.size
        generalize w4.drew = w5 at *
        have hb6 := (Below.refl _ w5).alloc (Nat.le_refl _) (.cells #[.slice A k.length c, .int .u64 ac, .bool ao, .int .i64 ah, .int .u64 al, .int .i64 an, .int .i64 ax] 56)
        have H6 := Aside0.mk (And.intro (h5p.below hb6) (And.intro (own_below h5o hb6) (And.intro (show ∀ x ∈ ([] : List Ent), EntOk w.heap.size (w5.alloc (.cells #[.slice A k.length c, .int .u64 ac, .bool ao, .int .i64 ah, .int .u64 al, .int .i64 an, .int .i64 ax] 56)) x from fun x hx => own_below (h5r x hx) hb6) (own_below h5x hb6))))
        have hw5 : w.heap.size ≤ (w5.alloc (.cells #[.slice A k.length c, .int .u64 ac, .bool ao, .int .i64 ah, .int .u64 al, .int .i64 an, .int .i64 ax] 56)).heap.size := by have := H4.out.2.2.2.2.2; rw [World.size_alloc]; omega
        have HW5 := Aside0.mk hw5
        have HNL := Aside0.mk (show (0 : Nat) ≤ 4096 by have h1 := HLN.out; have h2 := HNN.out; omega)
        clear hbd h5p h5o0 h5o h5r h5x h5s hb6 hw5
        obtain ⟨i0, hi, hzz⟩ := Option.map_eq_some_iff.1 info7
        simp only [Prod.mk.injEq] at hzz
        obtain ⟨hz0, hz1, hz2⟩ := hzz
        go_wp2_with (first
          | (at_builtin
             refine wpList_append_own_at _ rfl _ _ 31 rfl w.heap.size 56 i0 _ 7 72 Try.underlying31 hi hz0 hz1 hz2 rfl (by decide) _ _ _ rfl H6.out.2.1 ⟨w5.heap.size, 0, none⟩ 1 1 (Ent.cells ⟨A, c, k, ⟨ac, ao, ah, al, an, ax⟩⟩) rfl rfl (cells_new w5 ⟨A, c, k, ⟨ac, ao, ah, al, an, ax⟩⟩) (cells_one _) (by have := HNL.out; simp only [maxLen]; omega) (by have := HNL.out; omega) HW5.out ?_
             intro v7 w7 hown7 hg7 hnil7 hat7)
          | fail)
        have hfin := AlI.next (fs := fs') (vv := v') (outs3 := ([] : List Ent) ++ [⟨A, c, k, ⟨ac, ao, ah, al, an, ax⟩⟩]) (T := allF (rows.map Re.kv)) H6.out.1 H6.out.2.1 hg7 (by first | (simpa using hown7; done) | (have h := hown7; rw [HNN.out] at h; simpa using h)) (fun x hx => by
          rcases List.mem_append.1 hx with hx | hx
          · exact H6.out.2.2.1 x hx
          · obtain rfl := List.mem_singleton.1 hx
            exact H6.out.2.2.2) (fun x hx => by
          rcases List.mem_append.1 hx with hx | hx
          · exact HA.out.ok x hx
          · obtain rfl := List.mem_singleton.1 hx
            exact ⟨HS4.out.2.2.1, HS4.out.2.2.2.1, HS4.out.2.2.2.2.1⟩) (by
          have hkv := HS4.out.2.1
          rw [List.map_nil, addK_nil] at hkv
          simpa [Ent.ka] using hkv) (by have := HLN.out; have := HS4.out.1; rw [List.length_append, List.length_singleton]; omega) (Nat.le_trans HS4.out.2.2.2.2.2 HA.out.fl)
        have HFIN := Aside0.mk hfin
        clear hfin hown7 hg7 hnil7 hat7
        go_roundg (sizes (fs'.map Fe.fr))
        case measure => have := HS4.out.1; have := HM.out; omega
        case rel => exact ⟨fs', v', _, HFIN, ⟨rfl⟩⟩
      · rw [List.concat_eq_append] at *
        obtain ⟨q, hq⟩ : ∃ q, q = P.length := ⟨_, rfl⟩
        have hnq : nn = q + 1 := by rw [HNN.out, hq]; simp
        have hen : EnRow w4 g 0 (P ++ [y]) := by
          obtain ⟨A', g', cp', e', _, _, h1, h2⟩ := own_row H4.out.2.1 H4.out.2.2.1
          cases e'
          have h3 := (h1 (by simp)).1
          have h4 := (HR0.out.2.2.1 (by simp)).1
          rw [h4] at h3
          cases h3
          exact h2
        obtain ⟨rfl, hgw⟩ := HR0.out.2.2.1 (by simp)
        have hgl := (HA.out.own.lt g rfl).2
        obtain ⟨y0, y1, y2, y3, y4, y5, y6⟩ := hen.cells (j := q) (by rw [hq]; simp)
        have hgq : (P ++ [y])[q]'(by rw [hq]; simp) = y := by subst hq; simp
        rw [hgq, Nat.zero_add] at y0 y1 y2 y3 y4 y5 y6
        have hyr := hen.rd y (by simp)
        have hyo := HA.out.ok y (by simp)
        have hxr : RdB w4 A k := own_read H4.out.2.2.2.1
        have hcl : ∀ W, Below w4.heap.size w4 W → Calls Try.prog 23 #[.slice y.A y.k.length y.c, .slice A k.length c] W fun e w' => e = .returned (.bool (decide (y.k = k))) ∧ Below w4.heap.size w4 w' := fun W hW =>
          (bequal_c (hyr.k.below hW) (hxr.below hW) hyo.2.1 HS4.out.2.2.2.1).mono fun e w' ⟨h1, h2⟩ => ⟨h1, hW.trans (h2.mono hW.size)⟩
        have HCL := Aside0.mk hcl
        have HEN := Aside0.mk (And.intro hen (And.intro hyr (And.intro hyo (And.intro hxr (And.intro hgl hgw)))))
        have HQN := Aside0.mk (And.intro hq hnq)
        have hw1 : IntKind.i64.wrap ((nn : Int) - 1) = (q : Int) := by have := HLN.out; rw [← HNN.out] at this; rw [IntKind.wrap_i64]; omega
        have hqn : (q : Int) < (nn : Int) := by omega
        have hq0 : (0 : Int) ≤ (q : Int) := by omega
        have hnp : (0 : Int) < (nn : Int) := by omega
        have hnp2 : 0 < nn := by omega
        have hnp3 : decide (0 < nn) = true := decide_eq_true hnp2
        have hqn2 : q < nn := by omega
        clear hen hyr hyo hxr hgl hgw hcl hq hnq hgq
        obtain ⟨yA, yc, yk, ya⟩ := y
        obtain ⟨sc, so, shi, slo, smn, smx⟩ := ya
        simp only at y0 y1 y2 y3 y4 y5 y6 HCL
        by_cases hk : yk = k
        · have hd : decide (yk = k) = true := decide_eq_true hk
          rw [hd] at HCL
          have HK := Aside0.mk hk
          clear hk hd
          go_wp2_with fail
          have dy0 : w4.drew.cell? ⟨g, q * 7, none⟩ = some (.slice yA yk.length yc) := y0
          have dz0 : w4.drew.cell? ⟨tb, 0, none⟩ = some (.slice A k.length c) := z0
          go_region_held3 (fun w' => w'.cell? ⟨g, q * 7, none⟩ = some (.slice yA yk.length yc) ∧ w'.cell? ⟨tb, 0, none⟩ = some (.slice A k.length c)) (first | exact ⟨by assumption, by assumption⟩ | (trace_state; fail)) (first | (go_at_call 23; refine (HCL.out _ (by (repeat' (first | with_reducible exact Below.refl _ _ | with_reducible assumption | with_reducible apply bdrew | with_reducible apply bdrewN | with_reducible apply balloc | with_reducible refine bset ?_ (Nat.le_refl _))))).mono ?_; rintro e w6 ⟨rfl, hb6⟩; have ey0 := cell_below hb6 y0; have ez0 := cell_below hb6 z0))
          all_goals
            go_upto_region 10 with fail
            have h6o := own_below H4.out.2.1 hb6
            obtain ⟨cur, hbl⟩ := own_typed h6o g rfl
            have HBL := Aside0.mk hbl
            have yy1 : w6.cell? ⟨g, q * 7 + 1, none⟩ = some (.int .u64 sc) := cell_below hb6 y1
            have zz1 : w6.cell? ⟨tb, 1, none⟩ = some (.int .u64 ac) := cell_below hb6 z1
            have yy2 : w6.cell? ⟨g, q * 7 + 2, none⟩ = some (.bool so) := cell_below hb6 y2
            have zz2 : w6.cell? ⟨tb, 2, none⟩ = some (.bool ao) := cell_below hb6 z2
            have yy3 : w6.cell? ⟨g, q * 7 + 3, none⟩ = some (.int .i64 shi) := cell_below hb6 y3
            have zz3 : w6.cell? ⟨tb, 3, none⟩ = some (.int .i64 ah) := cell_below hb6 z3
            have yy4 : w6.cell? ⟨g, q * 7 + 4, none⟩ = some (.int .u64 slo) := cell_below hb6 y4
            have zz4 : w6.cell? ⟨tb, 4, none⟩ = some (.int .u64 al) := cell_below hb6 z4
            have yy5 : w6.cell? ⟨g, q * 7 + 5, none⟩ = some (.int .i64 smn) := cell_below hb6 y5
            have zz5 : w6.cell? ⟨tb, 5, none⟩ = some (.int .i64 an) := cell_below hb6 z5
            have yy6 : w6.cell? ⟨g, q * 7 + 6, none⟩ = some (.int .i64 smx) := cell_below hb6 y6
            have zz6 : w6.cell? ⟨tb, 6, none⟩ = some (.int .i64 ax) := cell_below hb6 z6
            have h6p := H4.out.1.below hb6
            have h6r : ∀ x ∈ P ++ [⟨yA, yc, yk, ⟨sc, so, shi, slo, smn, smx⟩⟩], EntOk w.heap.size w6 x := fun x hx => own_below (H4.out.2.2.1 x hx) hb6
            have H6 := Aside0.mk (And.intro h6p (And.intro h6o h6r))
            clear hbl h6o h6p h6r y0 y1 y2 y3 y4 y5 y6 z0 z1 z2 z3 z4 z5 z6 dy0 dz0 ey0 ez0
            rcases hmf : mergeF ⟨sc, so, shi, slo, smn, smx⟩ ⟨ac, ao, ah, al, an, ax⟩ with ⟨dc, dd, dh, dl, dn, dx⟩
            have HMF := Aside0.mk hmf
            clear hmf
            have hgt : ¬ g = tb := by have h1 := HEN.out.2.2.2.2.1; have h4 := HTB.out; omega
            go_region_with (first | (go_at_call 27; refine (merge_g (a := ⟨sc, so, shi, slo, smn, smx⟩) (b := ⟨ac, ao, ah, al, an, ax⟩) HEN.out.2.2.1.1.ok HS4.out.2.2.1.ok).mono ?_; rintro e w7 ⟨rfl, hb7⟩; rw [HMF.out]; dsimp only [Ag.v]; have k7 := (hb7.block g (blk_lt HBL.out)).trans HBL.out; have r1 := cell_below hb7 yy1; have q1 : w7.frozen? ⟨g, q * 7 + 1, none⟩ = false := blk_frozen k7 _; have r2 := cell_below hb7 yy2; have q2 : w7.frozen? ⟨g, q * 7 + 2, none⟩ = false := blk_frozen k7 _; have r3 := cell_below hb7 yy3; have q3 : w7.frozen? ⟨g, q * 7 + 3, none⟩ = false := blk_frozen k7 _; have r4 := cell_below hb7 yy4; have q4 : w7.frozen? ⟨g, q * 7 + 4, none⟩ = false := blk_frozen k7 _; have r5 := cell_below hb7 yy5; have q5 : w7.frozen? ⟨g, q * 7 + 5, none⟩ = false := blk_frozen k7 _; have r6 := cell_below hb7 yy6; have q6 : w7.frozen? ⟨g, q * 7 + 6, none⟩ = false := blk_frozen k7 _))
            all_goals
              have hB7 : Below w6.heap.size w6 w7 := ⟨hb7.os, hb7.tape, hb7.output, hb7.size, hb7.block⟩
              have h7o := own_below H6.out.2.1 hB7
              obtain ⟨h8o, h8g⟩ := setAg_own (P := P) (S := []) (a := ⟨dc, dd, dh, dl, dn, dx⟩) h7o
              rw [← HQN.out.1] at h8o h8g
              have hlen : (P ++ [(⟨yA, yc, yk, ⟨sc, so, shi, slo, smn, smx⟩⟩ : Ent)]).length = (P ++ [(⟨yA, yc, yk, ⟨dc, dd, dh, dl, dn, dx⟩⟩ : Ent)]).length := by simp
              have hfin := AlI.next (fs := fs') (vv := v') (outs3 := P ++ [⟨yA, yc, yk, ⟨dc, dd, dh, dl, dn, dx⟩⟩]) (T := allF (rows.map Re.kv)) (H6.out.1.below hB7) h7o h8g (by rw [← hlen]; exact h8o) (fun x hx => by
                rcases List.mem_append.1 hx with hx | hx
                · exact own_below (H6.out.2.2 x (by simp [hx])) hB7
                · obtain rfl := List.mem_singleton.1 hx
                  exact own_below (H6.out.2.2 ⟨yA, yc, yk, ⟨sc, so, shi, slo, smn, smx⟩⟩ (by simp)) hB7) (fun x hx => by
                rcases List.mem_append.1 hx with hx | hx
                · exact HA.out.ok x (by simp [hx])
                · obtain rfl := List.mem_singleton.1 hx
                  have h9 := HA.out.ok ⟨yA, yc, yk, ⟨sc, so, shi, slo, smn, smx⟩⟩ (by simp)
                  have h10 := h9.1.merge HS4.out.2.2.1
                  rw [HMF.out] at h10
                  exact ⟨h10, h9.2⟩) (by
                have hkv := HS4.out.2.1
                rw [List.map_append, List.map_cons, List.map_nil, addK_eq (by exact HK.out)] at hkv
                simpa [Ent.ka, HMF.out] using hkv) (by have := HLN.out; have := HS4.out.1; rw [← hlen]; omega) (Nat.le_trans HS4.out.2.2.2.2.2 HA.out.fl)
              rw [← HNN.out] at hfin
              have HFIN := Aside0.mk hfin
              clear hfin h8o h8g h7o hlen
              go_wp2_with fail
              go_roundg (sizes (fs'.map Fe.fr))
              case measure => have := HS4.out.1; have := HM.out; omega
              case rel => exact ⟨fs', v', _, HFIN, ⟨rfl⟩⟩
        · have hd : decide (yk = k) = false := decide_eq_false hk
          rw [hd] at HCL
          have HK := Aside0.mk hk
          clear hk hd
          go_wp2_with fail
          have dy0 : w4.drew.cell? ⟨g, q * 7, none⟩ = some (.slice yA yk.length yc) := y0
          have dz0 : w4.drew.cell? ⟨tb, 0, none⟩ = some (.slice A k.length c) := z0
          go_region_held3 (fun w' => w'.cell? ⟨g, q * 7, none⟩ = some (.slice yA yk.length yc) ∧ w'.cell? ⟨tb, 0, none⟩ = some (.slice A k.length c)) (first | exact ⟨by assumption, by assumption⟩ | (trace_state; fail)) (first | (go_at_call 23; refine (HCL.out _ (by (repeat' (first | with_reducible exact Below.refl _ _ | with_reducible assumption | with_reducible apply bdrew | with_reducible apply bdrewN | with_reducible apply balloc | with_reducible refine bset ?_ (Nat.le_refl _))))).mono ?_; rintro e w6 ⟨rfl, hb6⟩; have ey0 := cell_below hb6 y0; have ez0 := cell_below hb6 z0))
          all_goals
            go_upto_region 11 with fail
            have hbd : Below w4.heap.size w4 w6 := by (repeat' (first | with_reducible exact Below.refl _ _ | with_reducible assumption | with_reducible apply bdrew | with_reducible apply bdrewN | with_reducible apply balloc | with_reducible refine bset ?_ (Nat.le_refl _)))
            replace z0 : w6.cell? ⟨tb, 0, none⟩ = some (.slice A k.length c) := cell_below hbd z0
            replace z1 : w6.cell? ⟨tb, 1, none⟩ = some (.int .u64 ac) := cell_below hbd z1
            replace z2 : w6.cell? ⟨tb, 2, none⟩ = some (.bool ao) := cell_below hbd z2
            replace z3 : w6.cell? ⟨tb, 3, none⟩ = some (.int .i64 ah) := cell_below hbd z3
            replace z4 : w6.cell? ⟨tb, 4, none⟩ = some (.int .u64 al) := cell_below hbd z4
            replace z5 : w6.cell? ⟨tb, 5, none⟩ = some (.int .i64 an) := cell_below hbd z5
            replace z6 : w6.cell? ⟨tb, 6, none⟩ = some (.int .i64 ax) := cell_below hbd z6
            have h5p := H4.out.1.below hbd
            have h5o0 := H4.out.2.1
            rw [← HNN.out] at h5o0
            have h5o := own_below h5o0 hbd
            have h5r : ∀ x ∈ (P ++ [⟨yA, yc, yk, ⟨sc, so, shi, slo, smn, smx⟩⟩]), EntOk w.heap.size w6 x := fun x hx => own_below (H4.out.2.2.1 x hx) hbd
            have h5x := own_below H4.out.2.2.2.1 hbd
            have h5s := hbd.size
            generalize w6 = w5 at *
            have hb6 := (Below.refl _ w5).alloc (Nat.le_refl _) (.cells #[.slice A k.length c, .int .u64 ac, .bool ao, .int .i64 ah, .int .u64 al, .int .i64 an, .int .i64 ax] 56)
            have H6 := Aside0.mk (And.intro (h5p.below hb6) (And.intro (own_below h5o hb6) (And.intro (show ∀ x ∈ (P ++ [⟨yA, yc, yk, ⟨sc, so, shi, slo, smn, smx⟩⟩]), EntOk w.heap.size (w5.alloc (.cells #[.slice A k.length c, .int .u64 ac, .bool ao, .int .i64 ah, .int .u64 al, .int .i64 an, .int .i64 ax] 56)) x from fun x hx => own_below (h5r x hx) hb6) (own_below h5x hb6))))
            have hw5 : w.heap.size ≤ (w5.alloc (.cells #[.slice A k.length c, .int .u64 ac, .bool ao, .int .i64 ah, .int .u64 al, .int .i64 an, .int .i64 ax] 56)).heap.size := by have := H4.out.2.2.2.2.2; rw [World.size_alloc]; omega
            have HW5 := Aside0.mk hw5
            have HNL := Aside0.mk (show nn ≤ 4096 by have h1 := HLN.out; have h2 := HNN.out; omega)
            clear hbd h5p h5o0 h5o h5r h5x h5s hb6 hw5
            obtain ⟨i0, hi, hzz⟩ := Option.map_eq_some_iff.1 info7
            simp only [Prod.mk.injEq] at hzz
            obtain ⟨hz0, hz1, hz2⟩ := hzz
            go_wp2_with (first
              | (at_builtin
                 refine wpList_append_own_at _ rfl _ _ 31 rfl w.heap.size 56 i0 _ 7 72 Try.underlying31 hi hz0 hz1 hz2 rfl (by decide) _ _ _ rfl H6.out.2.1 ⟨w5.heap.size, 0, none⟩ 1 1 (Ent.cells ⟨A, c, k, ⟨ac, ao, ah, al, an, ax⟩⟩) rfl rfl (cells_new w5 ⟨A, c, k, ⟨ac, ao, ah, al, an, ax⟩⟩) (cells_one _) (by have := HNL.out; simp only [maxLen]; omega) (by have := HNL.out; omega) HW5.out ?_
                 intro v7 w7 hown7 hg7 hnil7 hat7)
              | fail)
            have hfin := AlI.next (fs := fs') (vv := v') (outs3 := (P ++ [⟨yA, yc, yk, ⟨sc, so, shi, slo, smn, smx⟩⟩]) ++ [⟨A, c, k, ⟨ac, ao, ah, al, an, ax⟩⟩]) (T := allF (rows.map Re.kv)) H6.out.1 H6.out.2.1 hg7 (by first | (simpa using hown7; done) | (have h := hown7; rw [HNN.out] at h; simpa using h)) (fun x hx => by
              rcases List.mem_append.1 hx with hx | hx
              · exact H6.out.2.2.1 x hx
              · obtain rfl := List.mem_singleton.1 hx
                exact H6.out.2.2.2) (fun x hx => by
              rcases List.mem_append.1 hx with hx | hx
              · exact HA.out.ok x hx
              · obtain rfl := List.mem_singleton.1 hx
                exact ⟨HS4.out.2.2.1, HS4.out.2.2.2.1, HS4.out.2.2.2.2.1⟩) (by
              have hkv := HS4.out.2.1
              rw [List.map_append, List.map_cons, List.map_nil, addK_ne (by exact HK.out)] at hkv
              simpa [Ent.ka] using hkv) (by have := HLN.out; have := HS4.out.1; rw [List.length_append, List.length_singleton]; omega) (Nat.le_trans HS4.out.2.2.2.2.2 HA.out.fl)
            have HFIN := Aside0.mk hfin
            clear hfin hown7 hg7 hnil7 hat7
            go_roundg (sizes (fs'.map Fe.fr))
            case measure => have := HS4.out.1; have := HM.out; omega
            case rel => exact ⟨fs', v', _, HFIN, ⟨rfl⟩⟩
end Go.Proofs.Ytoikaegohkolkaa.Top
