/-
  What the rounds of TopMemory keep: the list, the filter, and what both know of the facts so far; conditions: those that each theorem states.
-/
import Derived.Test.YtkpkhggjhpikdaaAlive
import Derived.Test.YtkpkhggjhpikdaaMem
namespace Go.Proofs.Ytkpkhggjhpikdaa.Top
set_option linter.unusedSimpArgs false
set_option linter.unusedVariables false
open Go.RowKit Go.Proofs.YtkpkhggjhpikdaaW.PrintWords Go.Proofs.YtkpkhggjhpikdaaW.PrintLast Go.Proofs.YtkpkhggjhpikdaaW.PrintMore Go.Proofs.Ytkpkhggjhpikdaa.Plain Go.Proofs.Ytkpkhggjhpikdaa.KFns Go.Proofs.Ytkpkhggjhpikdaa.Fns
/-- Facts that can be read. -/
abbrev RdF (w : World) (A : Option Addr) (l : List Lib.S36) : Prop := Kd.C Lib.k36 w A l.length l
theorem NsAt.but {w w1 : World} {base g : Nat} (hb : But g w w1) (hg : g < base) : ∀ {ns : List Nd}, NsAt w base ns → NsAt w1 base ns
  | [], _ => trivial
  | n :: t, ⟨⟨cs, kv, h1, h2, h3, h4, h5, h6, h7⟩, ht⟩ => by
    refine ⟨⟨cs, kv, (hb.block _ (blk_lt h1) (by simp; omega)).trans h1, h2, h3, h4, h5, own_move h6 (fun k hk => ?_), h7⟩, NsAt.but hb hg ht⟩
    obtain ⟨cs, hc⟩ := own_typed h6 k hk
    have := (h6.lt k hk).1
    exact hb.block _ (blk_lt hc) (by simp; omega)
theorem SkAt.but {w w1 : World} {base L g : Nat} {ns : List Nd} (h : SkAt w base L ns) (hb : But g w w1) (hg : g < base) (hL : L ≠ g) : SkAt w1 base L ns := by
  obtain ⟨cs, z, h1, h2⟩ := h.hd
  exact ⟨⟨cs, z, (hb.block _ (blk_lt h1) (by simpa using hL)).trans h1, h2⟩, h.Lb, NsAt.but hb hg h.nodes, h.srt, h.nodup, h.ky, h.ht⟩
/-- What list and filter are behind j facts. -/
structure Hld (w : World) (l : List Lib.S36) (base F g : Nat) (j : Nat) (W : World) (ns : List Nd) (bl : List Int) : Prop where
  sk : SkAt W base w.heap.size ns
  co : cont ns = conF (l.take j)
  fw : ∀ n ∈ ns, n.a.few j
  le : ns.length ≤ j
  fl : FlAt W w.heap.size F g 4 bl
  bn : bl.length = 64
  by' : Byt bl
  my : ∀ x ∈ l.take j, mayF bl (kf x) 4 = true
  ok : ∀ x ∈ l.take j, okf x = true
  be : Below w.heap.size w W
  lo : F < base ∧ g < base ∧ w.heap.size < g ∧ base ≤ W.heap.size
theorem Hld.below {w : World} {l : List Lib.S36} {base F g j : Nat} {W W1 : World} {ns : List Nd} {bl : List Int} (h : Hld w l base F g j W ns bl) (hb : Below W.heap.size W W1) : Hld w l base F g j W1 ns bl :=
  ⟨h.sk.below hb, h.co, h.fw, h.le, h.fl.below hb, h.bn, h.by', h.my, h.ok, h.be.trans (hb.mono h.be.size), h.lo.1, h.lo.2.1, h.lo.2.2.1, Nat.le_trans h.lo.2.2.2 hb.size⟩
/-- The list behind Put. -/
structure Ptd (w : World) (l : List Lib.S36) (base F g : Nat) (j : Nat) (x : Lib.S36) (W : World) (ns : List Nd) (bl : List Int) : Prop where
  sk : SkAt W base w.heap.size ns
  co : cont ns = insF (conF (l.take j)) (kf x) (oneF x.f2)
  fw : ∀ n ∈ ns, n.a.few (j + 1)
  le : ns.length ≤ j + 1
  fl : FlAt W w.heap.size F g 4 bl
  bn : bl.length = 64
  by' : Byt bl
  my : ∀ x ∈ l.take j, mayF bl (kf x) 4 = true
  ok : ∀ x ∈ l.take j, okf x = true
  be : Below w.heap.size w W
  lo : F < base ∧ g < base ∧ w.heap.size < g ∧ base ≤ W.heap.size
theorem Hld.put {w : World} {l : List Lib.S36} {base F g j : Nat} {x : Lib.S36} {W W1 : World} {ns : List Nd} {bl : List Int} {e : Ending} (h : Hld w l base F g j W ns bl) (hj : j < 999999) (hp : PutTo W base w.heap.size ns (kf x) x.f2 e W1) :
    ∃ ns', e = .returned (.int .i64 0) ∧ Ptd w l base F g j x W1 ns' bl ∧ Gs W W1 := by
  obtain ⟨ns', rfl, h1, h2, h3, h4, h5, h6⟩ := hp
  have hlo := h.lo
  have hs := h.be.size
  rw [Nat.min_eq_right (by omega)] at h6
  refine ⟨ns', rfl, ⟨h1, by rw [h2, h.co], h3 j hj h.fw, by have := h.le; omega, h.fl.gs h5, h.bn, h.by', h.my, h.ok, h.be.trans h6, hlo.1, hlo.2.1, hlo.2.2.1, Nat.le_trans hlo.2.2.2 h6.size⟩, h5⟩
theorem take_snoc {α : Type} {l : List α} {j : Nat} (hj : j < l.length) : l.take (j + 1) = l.take j ++ [l[j]] := List.take_succ_eq_append_getElem hj
theorem Ptd.add {w : World} {l : List Lib.S36} {base F g j : Nat} {x : Lib.S36} {W W1 : World} {ns : List Nd} {bl : List Int} (h : Ptd w l base F g j x W ns bl) (hj : j < l.length) (hx : l[j] = x) (hok : okf x = true)
    (hf : FlAt W1 w.heap.size F g 4 (addF bl (kf x) 4)) (hb : But g W W1) : Hld w l base F g (j + 1) W1 ns (addF bl (kf x) 4) := by
  have ht := take_snoc hj
  rw [hx] at ht
  have hlo := h.lo
  have hbn := h.bn
  have hB : Below w.heap.size w W1 := ⟨hb.os.trans h.be.os, hb.tape.trans h.be.tape, hb.output.trans h.be.output, Nat.le_trans h.be.size hb.size, fun b hbb => (hb.block b (Nat.lt_of_lt_of_le hbb h.be.size) (by simp; omega)).trans (h.be.block b hbb)⟩
  refine ⟨h.sk.but hb hlo.2.1 (by omega), ?_, h.fw, h.le, hf, by rw [addF_len, hbn], addF_byt h.by' _ _, fun y hy => ?_, fun y hy => ?_, hB, hlo.1, hlo.2.1, hlo.2.2.1, Nat.le_trans hlo.2.2.2 hb.size⟩
  · rw [h.co, ht, conF_snoc]
  · rw [ht] at hy
    rcases List.mem_append.1 hy with hy | hy
    · exact mayF_mono h.by' _ _ _ (h.my y hy)
    · rw [List.mem_singleton.1 hy]
      exact mayF_add h.by' (by omega) _ _
  · rw [ht] at hy
    rcases List.mem_append.1 hy with hy | hy
    · exact h.ok y hy
    · rw [List.mem_singleton.1 hy]
      exact hok
end Go.Proofs.Ytkpkhggjhpikdaa.Top
namespace Go.Proofs.Ytkpkhggjhpikdaa.Top
set_option linter.unusedSimpArgs false
set_option linter.unusedVariables false
open Go.RowKit Go.Proofs.YtkpkhggjhpikdaaW.PrintWords Go.Proofs.YtkpkhggjhpikdaaW.PrintLast Go.Proofs.YtkpkhggjhpikdaaW.PrintMore Go.Proofs.Ytkpkhggjhpikdaa.Plain Go.Proofs.Ytkpkhggjhpikdaa.KFns Go.Proofs.Ytkpkhggjhpikdaa.Fns
theorem flat_get : ∀ (xs : List Ent) (i m : Nat) (hi : i < xs.length), m < 7 → (xs.flatMap Ent.cells)[i * 7 + m]? = xs[i].cells[m]?
  | x :: xs, 0, m, _, hm => by
    have hl : x.cells.length = 7 := rfl
    rw [List.flatMap_cons, Nat.zero_mul, Nat.zero_add, List.getElem?_append_left (by omega)]
    rfl
  | x :: xs, i + 1, m, hi, hm => by
    have hl : x.cells.length = 7 := rfl
    have hi' : i < xs.length := by simpa using hi
    rw [List.flatMap_cons, List.getElem?_append_right (by omega), hl, show (i + 1) * 7 + m - 7 = i * 7 + m by omega, flat_get xs i m hi' hm]
    rfl
/-- A row of entries: its place. -/
theorem row_slice {W : World} {n₀ e size n : Nat} {v : Value} {xs : List Value} (h : W.ownsRow n₀ e size v n xs) : ∃ A c, v = .slice A n c ∧ ∀ i, i < xs.length → ∃ g, A = some ⟨g, 0, none⟩ ∧ g < W.heap.size ∧ W.cell? ⟨g, i, none⟩ = xs[i]? := by
  have h0 := h
  rcases h.2 with ⟨rfl, hn⟩ | ⟨g, cap, cur, rfl, hb, hg, r⟩
  · obtain rfl : n = 0 := by simpa using hn
    have : xs = [] := List.eq_nil_of_length_eq_zero (by have := h.1; omega)
    subst this
    exact ⟨none, 0, rfl, fun i hi => by simp at hi⟩
  · refine ⟨_, _, rfl, fun i hi => ⟨g, rfl, blk_lt hg, ?_⟩⟩
    obtain ⟨u, hu⟩ : ∃ u, xs[i]? = some u := ⟨_, List.getElem?_eq_getElem hi⟩
    have := h0.cells (g := g) rfl i u hu
    rw [hu, ← this]
    rcases Nat.eq_zero_or_pos i with rfl | hp
    · rfl
    · simp [Addr.add, Nat.pos_iff_ne_zero.1 hp]
structure Seen (w : World) (F g n₀ : Nat) (v : Value) (xs : List Ent) (bl : List Int) (W : World) : Prop where
  row : W.ownsRow n₀ 47 7 v xs.length (xs.flatMap Ent.cells)
  ent : ∀ x ∈ xs, EntOk n₀ W x ∧ x.k.length ≤ x.c
  fl : FlAt W w.heap.size F g 4 bl
  be : Below w.heap.size w W
theorem Seen.below {w W W1 : World} {F g n₀ : Nat} {v : Value} {xs : List Ent} {bl : List Int} (h : Seen w F g n₀ v xs bl W) (hb : Below W.heap.size W W1) : Seen w F g n₀ v xs bl W1 :=
  ⟨own_below h.row hb, fun x hx => ⟨own_below (h.ent x hx).1 hb, (h.ent x hx).2⟩, h.fl.below hb, h.be.trans (hb.mono h.be.size)⟩
/-- The entry's cells. -/
theorem Seen.at {w W : World} {F g n₀ : Nat} {v : Value} {xs : List Ent} {bl : List Int} (h : Seen w F g n₀ v xs bl W) {A : Option Addr} {n c : Nat} (hv : v = .slice A n c) {j : Nat} (hj : j < xs.length) :
    ∃ b, A = some ⟨b, 0, none⟩ ∧ W.cell? ⟨b, j * 7, none⟩ = some (.slice xs[j].A xs[j].k.length xs[j].c) ∧ W.cell? ⟨b, j * 7 + 1, none⟩ = some (.int .u64 xs[j].a.c) ∧ W.cell? ⟨b, j * 7 + 2, none⟩ = some (.bool xs[j].a.o) ∧
      W.cell? ⟨b, j * 7 + 3, none⟩ = some (.int .i64 xs[j].a.hi) ∧ W.cell? ⟨b, j * 7 + 4, none⟩ = some (.int .u64 xs[j].a.lo) ∧ W.cell? ⟨b, j * 7 + 5, none⟩ = some (.int .i64 xs[j].a.mn) ∧ W.cell? ⟨b, j * 7 + 6, none⟩ = some (.int .i64 xs[j].a.mx) ∧
      RdB W xs[j].A xs[j].k ∧ xs[j].k.length ≤ xs[j].c := by
  obtain ⟨A', c', hA, hc⟩ := row_slice h.row
  subst hv
  cases hA
  have hl : (xs.flatMap Ent.cells).length = xs.length * 7 := h.row.1
  have e : ∀ m, m < 7 → ∃ b, A = some ⟨b, 0, none⟩ ∧ W.cell? ⟨b, j * 7 + m, none⟩ = xs[j].cells[m]? := fun m hm => by
    obtain ⟨b, h1, h2, h3⟩ := hc (j * 7 + m) (by omega)
    rw [flat_get xs j m hj hm] at h3
    exact ⟨b, h1, h3⟩
  obtain ⟨b, hb, h0⟩ := e 0 (by omega)
  have e' : ∀ m, m < 7 → W.cell? ⟨b, j * 7 + m, none⟩ = xs[j].cells[m]? := fun m hm => by
    obtain ⟨b', h1, h2⟩ := e m hm
    rw [hb] at h1
    cases h1
    exact h2
  exact ⟨b, hb, h0, e' 1 (by omega), e' 2 (by omega), e' 3 (by omega), e' 4 (by omega), e' 5 (by omega), e' 6 (by omega), own_read (h.ent _ (List.getElem_mem _)).1, (h.ent _ (List.getElem_mem _)).2⟩
/-- The key that was read. -/
structure Cur (w : World) (F g n₀ : Nat) (v : Value) (xs : List Ent) (bl : List Int) (q : Nat) (B : Option Addr) (d : Nat) (y : Lib.S36) (W : World) : Prop where
  sn : Seen w F g n₀ v xs bl W
  kq : W.heap[q]? = some (.cells #[.slice B y.f0.length d, .int .i64 y.f1, .int .i64 0] 38 (0, 0))
  rs : RdS W B y.f0
theorem Cur.below {w W W1 : World} {F g n₀ : Nat} {v : Value} {xs : List Ent} {bl : List Int} {q : Nat} {B : Option Addr} {d : Nat} {y : Lib.S36} (h : Cur w F g n₀ v xs bl q B d y W) (hb : Below W.heap.size W W1) : Cur w F g n₀ v xs bl q B d y W1 :=
  ⟨h.sn.below hb, (hb.block _ (blk_lt h.kq)).trans h.kq, h.rs.below hb⟩
theorem Cur.cells {w W : World} {F g n₀ : Nat} {v : Value} {xs : List Ent} {bl : List Int} {q : Nat} {B : Option Addr} {d : Nat} {y : Lib.S36} (h : Cur w F g n₀ v xs bl q B d y W) : W.cell? ⟨q, 0, none⟩ = some (.slice B y.f0.length d) ∧ W.cell? ⟨q, 1, none⟩ = some (.int .i64 y.f1) ∧ W.cell? ⟨q, 2, none⟩ = some (.int .i64 0) :=
  ⟨(blk_cell h.kq 0).trans rfl, (blk_cell h.kq 1).trans rfl, (blk_cell h.kq 2).trans rfl⟩
def AgS (b j : Nat) (a : Ag) (W : World) : Prop := W.cell? ⟨b, j * 7 + 1, none⟩ = some (.int .u64 a.c) ∧ W.cell? ⟨b, j * 7 + 1 + 1, none⟩ = some (.bool a.o) ∧
      W.cell? ⟨b, j * 7 + 1 + 2, none⟩ = some (.int .i64 a.hi) ∧ W.cell? ⟨b, j * 7 + 1 + 3, none⟩ = some (.int .u64 a.lo) ∧ W.cell? ⟨b, j * 7 + 1 + 4, none⟩ = some (.int .i64 a.mn) ∧ W.cell? ⟨b, j * 7 + 1 + 5, none⟩ = some (.int .i64 a.mx)
theorem AgS.s {b j : Nat} {a : Ag} {W : World} (h : AgS b j a W) : W.cell? ⟨b, j * 7 + 1, none⟩ = some (.int .u64 a.c) ∧ W.cell? ⟨b, j * 7 + 1 + 1, none⟩ = some (.bool a.o) ∧
      W.cell? ⟨b, j * 7 + 1 + 2, none⟩ = some (.int .i64 a.hi) ∧ W.cell? ⟨b, j * 7 + 1 + 3, none⟩ = some (.int .u64 a.lo) ∧ W.cell? ⟨b, j * 7 + 1 + 4, none⟩ = some (.int .i64 a.mn) ∧ W.cell? ⟨b, j * 7 + 1 + 5, none⟩ = some (.int .i64 a.mx) := h
theorem AgS.below {b j : Nat} {a : Ag} {W W1 : World} (h : AgS b j a W) (hb : Below W.heap.size W W1) : AgS b j a W1 := by
  obtain ⟨h1, h2, h3, h4, h5, h6⟩ := h
  have e : ∀ (o : Nat) (v : Value), W.cell? ⟨b, o, none⟩ = some v → W1.cell? ⟨b, o, none⟩ = some v := fun o v h => (hb.cell (p := ⟨b, o, none⟩) (World.block_lt_of_cell? W _ h)).trans h
  exact ⟨e _ _ h1, e _ _ h2, e _ _ h3, e _ _ h4, e _ _ h5, e _ _ h6⟩
/-- What is known of an entry: whose key it is, and what its values are. -/
theorem ent_fact {l : List Lib.S36} {xs : List Ent} (hx : xs.map (fun x => (x.k, x.a)) = conF l) {j : Nat} (hj : j < xs.length) : xs[j].a = manyF (valsF l xs[j].k) ∧ ∃ y ∈ l, kf y = xs[j].k := by
  have hm : (xs[j].k, xs[j].a) ∈ conF l := by
    rw [← hx]
    exact List.mem_map.2 ⟨xs[j], List.getElem_mem _, rfl⟩
  exact (con_ok l).agg _ hm
theorem ent_less {l : List Lib.S36} {xs : List Ent} (hx : xs.map (fun x => (x.k, x.a)) = conF l) {j : Nat} (hj : j + 1 < xs.length) : lts xs[j].k xs[j + 1].k = true := by
  have hs := (con_ok l).srt
  rw [← hx] at hs
  unfold Srt at hs
  rw [List.pairwise_map] at hs
  exact List.pairwise_iff_getElem.1 hs j (j + 1) (by omega) hj (by omega)
theorem ent_at {xs : List Ent} {i : Nat} (hi : i < xs.length) : xs.getD i ⟨none, 0, [], zeroF⟩ = xs[i] := by
  rw [List.getD_eq_getElem?_getD, List.getElem?_eq_getElem hi]
  rfl
/-- The entry ahead. -/
theorem Seen.prev {w W : World} {F g n₀ : Nat} {v : Value} {xs : List Ent} {bl : List Int} {l : List Lib.S36} (h : Seen w F g n₀ v xs bl W) (hcon : xs.map (fun x => (x.k, x.a)) = conF l) {b n c : Nat} (hv : v = .slice (some ⟨b, 0, none⟩) n c) {j : Nat} (hj : j < xs.length) (h0 : 0 < j) :
    ∃ (z : Lib.S36) (pA : Option Addr) (pc : Nat), z ∈ l ∧ lts (kf z) xs[j].k = true ∧ RdB W pA (kf z) ∧ (kf z).length ≤ pc ∧ W.cell? ⟨b, (j - 1) * 7, none⟩ = some (.slice pA (kf z).length pc) := by
  obtain ⟨i, rfl⟩ : ∃ i, j = i + 1 := ⟨j - 1, by omega⟩
  obtain ⟨b', e, p0, _, _, _, _, _, _, hrp, hcp⟩ := h.at (j := i) hv (by omega)
  cases e
  obtain ⟨_, z, hz, hkz⟩ := ent_fact hcon (j := i) (by omega)
  have hl := ent_less hcon hj
  rw [← hkz] at hl hrp hcp p0
  exact ⟨z, _, _, hz, hl, hrp, hcp, p0⟩
theorem infoI : (Try.prog.info? 2).map (fun i => (i.zero, i.size, i.bytes)) = some (some (.int .i64 0), 1, 8) := by kernel_rfl
theorem fits_len {x : Lib.S36} (h : okf x = true) : x.f0.length ≤ 1000 := by
  have := (fits_true (right_true h).1).1
  omega
theorem less_fact {x y : Lib.S36} (h : okf x = true) (h' : okf y = true) : lessB x.f0 x.f1 0 y.f0 y.f1 0 = lts (kf x) (kf y) := (kb_lts h h').symm
theorem vals_take {l : List Lib.S36} {n : Nat} (hn : n < l.length) (k : List Int) : valsF (l.take (n + 1)) k = valsF (l.take n) k ++ (if kf l[n] = k then [l[n].f2] else []) := by
  rw [take_snoc hn, valsF_snoc]
theorem vals_no {l : List Lib.S36} {n : Nat} (hn : n < l.length) {k : List Int} (h : kf l[n] ≠ k) : valsF (l.take (n + 1)) k = valsF (l.take n) k := by
  rw [vals_take hn, if_neg h, List.append_nil]
theorem vals_yes {l : List Lib.S36} {n : Nat} (hn : n < l.length) {k : List Int} (h : kf l[n] = k) : valsF (l.take (n + 1)) k = valsF (l.take n) k ++ [l[n].f2] := by
  rw [vals_take hn, if_pos h]
theorem vals_len (l : List Lib.S36) (k : List Int) : (valsF l k).length ≤ l.length := by
  unfold valsF
  rw [List.length_map]
  exact List.length_filter_le _ _
theorem vals_some {l : List Lib.S36} {y : Lib.S36} (hy : y ∈ l) : valsF l (kf y) ≠ [] := by
  unfold valsF
  intro h
  rw [List.map_eq_nil_iff, List.filter_eq_nil_iff] at h
  exact h y hy (by simp)
/-- An own row of whole numbers can be read. -/
theorem own_i64 {W : World} {n₀ : Nat} {A : Option Addr} {c : Nat} {l : List Int} (h : W.ownsRow n₀ 2 1 (.slice A l.length c) l.length (nums .i64 l)) : RdI W A l := by
  intro i hi
  obtain ⟨A', c', e, hc⟩ := row_slice h
  cases e
  obtain ⟨g, h1, h2, h3⟩ := hc i (by rw [nums_length]; exact hi)
  refine ⟨g, 0, h1, h2, ?_⟩
  rw [Nat.zero_add, h3]
  unfold nums
  rw [List.getElem?_map, List.getElem?_eq_getElem hi]
  rfl
end Go.Proofs.Ytkpkhggjhpikdaa.Top
