/-
  The list's Seek and All: a row of all entries; conditions: those that each theorem states.
-/
import Derived.Test.YtkpkhggjhpikdaaAll
import Derived.Maps.OwnIn
namespace Go.Proofs.Ytkpkhggjhpikdaa.Top
set_option linter.unusedSimpArgs false
set_option linter.unusedVariables false
open Go.RowKit Go.Shelf Go.Proofs.YtkpkhggjhpikdaaW.PrintWords Go.Proofs.YtkpkhggjhpikdaaW.PrintLast Go.Proofs.YtkpkhggjhpikdaaW.PrintMore Go.Proofs.Ytkpkhggjhpikdaa.Plain
attribute [local go_sem] Oper.semAt_some
theorem info7 : (Try.prog.info? 47).map (fun i => (i.zero, i.size, i.bytes)) = some (some (.agg #[.slice none 0 0, .int .u64 0, .bool false, .int .i64 0, .int .u64 0, .int .i64 0, .int .i64 0]), 7, 72) := by kernel_rfl
def Ent.cells (x : Ent) : List Value := [.slice x.A x.k.length x.c, .int .u64 x.a.c, .bool x.a.o, .int .i64 x.a.hi, .int .u64 x.a.lo, .int .i64 x.a.mn, .int .i64 x.a.mx]
/-- What the loop holds: its row, in its box. -/
structure SeekI (w : World) (pre : List Ent) (W : World) : Prop where
  box : ∃ v, W.heap[w.heap.size + 1]? = some (.cells #[v] 49 (0, 0)) ∧ W.ownsRow w.heap.size 47 7 v pre.length (pre.flatMap Ent.cells)
  most : W.heap[w.heap.size]? = some (.cells #[.int .i64 4096] 3 (0, 0))
  below : Below w.heap.size w W
theorem own_below {w w1 : World} {base : Nat} {e : TypeId} {size n : Nat} {v : Value} {xs : List Value} (h : w.ownsRow base e size v n xs) (hb : Below w.heap.size w w1) : w1.ownsRow base e size v n xs := own_move h fun k hk => by
  obtain ⟨cs, hc⟩ := own_typed h k hk
  exact hb.block k (blk_lt hc)
theorem SeekI.step {w A B : World} {pre : List Ent} (h : SeekI w pre A) (hb : Below A.heap.size A B) : SeekI w pre B := by
  obtain ⟨⟨v, h1, h2⟩, h3, h4⟩ := h
  exact ⟨⟨v, (hb.block _ (blk_lt h1)).trans h1, own_below h2 hb⟩, (hb.block _ (blk_lt h3)).trans h3, h4.trans (hb.mono h4.size)⟩
theorem put_far {W : World} {l k : Nat} {o o' : Obj} {cs : Array Value} {t : TypeId} {fz : Nat × Nat} (hl : W.heap[l]? = some o) (ho : o.isCells = false) (hk : W.heap[k]? = some (.cells cs t fz)) : (W.putObj l o').heap[k]? = W.heap[k]? := World.putObj_heap_other fun e => by
  subst e
  rw [hl] at hk
  cases hk
  cases ho
theorem own_put {W : World} {l : Nat} {o o' : Obj} (hl : W.heap[l]? = some o) (ho : o.isCells = false) {base : Nat} {e : TypeId} {size n : Nat} {v : Value} {xs : List Value} (h : W.ownsRow base e size v n xs) : (W.putObj l o').ownsRow base e size v n xs := own_move h fun k hk => by
  obtain ⟨cs, hc⟩ := own_typed h k hk
  exact put_far hl ho hc
theorem put_size (W : World) (l : Nat) (o' : Obj) : (W.putObj l o').heap.size = W.heap.size := by simp [World.putObj]
theorem SeekI.put {w W : World} {pre : List Ent} {l : Nat} {o o' : Obj} (h : SeekI w pre W) (hw : w.heap.size ≤ l) (hl : W.heap[l]? = some o) (ho : o.isCells = false) : SeekI w pre (W.putObj l o') := by
  obtain ⟨⟨v, h1, h2⟩, h3, h4⟩ := h
  exact ⟨⟨v, (put_far hl ho h1).trans h1, own_put hl ho h2⟩, (put_far hl ho h3).trans h3, h4.grown (⟨rfl, rfl, rfl, by simp, fun k _ hk => World.putObj_heap_other (fun e => hk (by rw [e]))⟩ : W.grownBy (W.putObj l o') (some l)) h4.size (fun k e => by cases e; exact hw)⟩
theorem Kq.put {W : World} {l : Nat} {o o' : Obj} (hl : W.heap[l]? = some o) (ho : o.isCells = false) : Kq W (W.putObj l o') := ⟨Nat.le_of_eq (put_size W l o').symm, fun k cs e hk _ _ => put_far hl ho hk⟩
theorem cells_new (W : World) (x : Ent) : ∀ j u, x.cells[j]? = some u → (W.alloc (.cells #[.slice x.A x.k.length x.c, .int .u64 x.a.c, .bool x.a.o, .int .i64 x.a.hi, .int .u64 x.a.lo, .int .i64 x.a.mn, .int .i64 x.a.mx] 47)).cell? ((⟨W.heap.size, 0, none⟩ : Addr).add j) = some u := fun j u hj => by
  have hb : (W.alloc (.cells #[.slice x.A x.k.length x.c, .int .u64 x.a.c, .bool x.a.o, .int .i64 x.a.hi, .int .u64 x.a.lo, .int .i64 x.a.mn, .int .i64 x.a.mx] 47)).heap[W.heap.size]? = some (.cells x.cells.toArray 47 (0, 0)) := al_new rfl
  have := (blk_cell hb j).trans (by simpa using hj)
  have ea : ((⟨W.heap.size, 0, none⟩ : Addr).add j) = ⟨W.heap.size, j, none⟩ := by
    by_cases h : j = 0
    · subst h
      rfl
    · simp [Addr.add, h]
  rw [ea]
  exact this
theorem cells_one (x : Ent) : ∀ u ∈ x.cells, u.oneCell' = true := fun u hu => by
  simp only [Ent.cells, List.mem_cons, List.not_mem_nil, or_false] at hu
  rcases hu with rfl | rfl | rfl | rfl | rfl | rfl | rfl <;> rfl
theorem own_some {w : World} {base : Nat} {e : TypeId} {size n : Nat} {v : Value} {xs : List Value} (h : w.ownsRow base e size v (n + 1) xs) (h0 : 0 < n + 1) : ∃ g cap cur, v = .slice (some ⟨g, 0, none⟩) (n + 1) cap ∧ base ≤ g ∧ w.heap[g]? = some (.cells cur e (0, 0)) ∧ n + 1 ≤ cap ∧ cap ≤ maxLen ∧ cur.size = cap * size ∧ cur.toList.take ((n + 1) * size) = xs := by
  rcases h.2 with ⟨_, h⟩ | h
  · omega
  · exact h
theorem cell_of_box {w : World} {b : Nat} {t : TypeId} {v : Value} (h : w.heap[b]? = some (.cells #[v] t (0, 0))) : w.cell? ⟨b, 0, none⟩ = some v ∧ w.frozen? ⟨b, 0, none⟩ = false := ⟨(blk_cell h 0).trans rfl, blk_frozen h 0⟩
theorem row_box {W w3 : World} {o : Obj} {base b n : Nat} {t e : TypeId} {u v : Value} {xs : List Value} (h : W.heap[b]? = some (.cells #[u] t (0, 0))) (hown : W.ownsRow base e 7 v n xs) (hg : (W.alloc o).grownBy w3 v.ownBlock) (hne : t ≠ e := by decide) : w3.heap[b]? = some (.cells #[u] t (0, 0)) := by
  refine (hg.block b (by simp [World.size_alloc]; have := blk_lt h; omega) (fun hb => ?_)).trans (al_old h _)
  obtain ⟨cs, hc⟩ := own_typed hown b hb.symm
  rw [h] at hc
  simp only [Option.some.injEq, Obj.cells.injEq] at hc
  exact hne hc.2.1
theorem seek_kq {W w3 : World} {o : Obj} {base b n : Nat} {u u' v : Value} {xs : List Value} (hown : W.ownsRow base 47 7 v n xs) (hg : (W.alloc o).grownBy w3 v.ownBlock) (hb : W.heap[b]? = some (.cells #[u] 49 (0, 0))) : Kq W (w3.setCell ⟨b, 0, none⟩ u') := by
  refine ⟨?_, fun k cs e hk h1 h2 => ?_⟩
  · have := hg.size
    simp [World.size_alloc] at this ⊢
    omega
  · refine (Below.heap_setCell _ _ _ _ (fun e' => ?_)).trans ((hg.block k (by simp [World.size_alloc]; have := blk_lt hk; omega) (fun hb' => ?_)).trans ((al_old hk o).trans hk.symm))
    · subst e'
      rw [hb] at hk
      simp only [Option.some.injEq, Obj.cells.injEq] at hk
      exact h1 hk.2.1.symm
    · obtain ⟨cs', hc⟩ := own_typed hown k hb'.symm
      rw [hc] at hk
      simp only [Option.some.injEq, Obj.cells.injEq] at hk
      exact h2 hk.2.1.symm
def SeekR (w : World) (L : Nat) (ns : List Nd) (pre : List Ent) (x : Ent) (a : Act) (W : World) : Prop := ∃ e, W.heap[e]? = some (.cells x.cells.toArray 47 (0, 0)) ∧
  a = { tmps := #[.pointer (some ⟨L, 0, none⟩), .slice none 0 0, .int .i64 4096, undef, undef, .pointer (some ⟨w.heap.size, 0, none⟩), .slice none 0 0, .pointer (some ⟨w.heap.size + 1, 0, none⟩), .pointer (some ⟨e, 0, none⟩), .pointer (some ⟨L, 0, none⟩), .bool false, .bool false, .int .i64 4096, .bool false, .bool false, .pointer (some ⟨L, 0, none⟩), .slice none 0 0, .func (.func 48) #[] #[.pointer (some ⟨w.heap.size + 1 + 1, 0, none⟩), .pointer (some ⟨w.heap.size + 1 + 1 + 1, 0, none⟩)], .agg x.cells.toArray, undef, undef, undef, undef, undef, undef, undef, undef, undef], defers := [] } ∧
  SeekI w pre W ∧ pre.length < ns.length
theorem SeekR.put {w : World} {L : Nat} {ns : List Nd} {pre : List Ent} {x : Ent} {a : Act} {W : World} {l : Nat} {o o' : Obj} (h : SeekR w L ns pre x a W) (hw : w.heap.size ≤ l) (hl : W.heap[l]? = some o) (ho : o.isCells = false) : SeekR w L ns pre x a (W.putObj l o') := by
  obtain ⟨e, h1, h2, h3, h4⟩ := h
  exact ⟨e, (put_far hl ho h1).trans h1, h2, h3.put hw hl ho, h4⟩
set_option maxRecDepth 100000 in
set_option maxHeartbeats 4000000 in
theorem seek_c {w : World} {base L : Nat} {ns : List Nd} (hsk : SkAt w base L ns) (hlen : ns.length ≤ 1000) : Calls Try.prog 28 #[ptr L, .slice none 0 0, .int .i64 4096] w fun e w' => ∃ (v : Value) (xs : List Ent), e = .returned v ∧ w'.ownsRow w.heap.size 47 7 v xs.length (xs.flatMap Ent.cells) ∧
    (xs.map (fun x => (x.k, x.a)) = cont ns ∧ ∀ x ∈ xs, EntOk w.heap.size w' x ∧ x.k.length ≤ x.c) ∧ Below w.heap.size w w' := by
  refine (callsIn_wide (n := 6)).1 ?_
  unfold ptr
  have H := Aside0.mk hsk
  clear hsk
  refine callsIn_of_wp_marks Try.func28 rfl trivial ?_ rfl
  simp only [Try.ntmps28, List.size_toArray, List.length_cons, List.length_nil, Nat.reduceAdd, Nat.reduceSub, Array.replicate_succ, Array.replicate_zero, List.push_toArray, List.append_toArray, List.nil_append, List.cons_append]
  gi_wp2_with (refine ⟨trivial, ?_⟩; refine (callsIn_wide.2 (from_c _ L)).mono ?_; rintro e w2 ⟨rfl, rfl⟩)
  obtain ⟨W0, hW0⟩ : ∃ W0, (((w.alloc (.cells #[.int .i64 4096] 3)).alloc (.cells #[.slice none 0 0] 49)).alloc (.cells #[ptr L] 26)).alloc (.cells #[.slice none 0 0] 23) = W0 := ⟨_, rfl⟩
  have hB0 : Below w.heap.size w W0 := by
    rw [← hW0]
    exact ((((Below.refl _ w).alloc (Nat.le_refl _) _).alloc (by simp) _).alloc (by simp; omega) _).alloc (by simp; omega) _
  have hI0 : SeekI w [] W0 := ⟨⟨.slice none 0 0, by rw [← hW0]; exact al_old (al_old (al_new (by simp)) _) _, World.ownsRow_nil _ _ _ _⟩, by rw [← hW0]; exact al_old (al_old (al_old (al_new rfl) _) _) _, hB0⟩
  have hb1 : W0.heap[w.heap.size + 2]? = some (.cells #[ptr L] 26 (0, 0)) := by rw [← hW0]; exact al_old (al_new (by simp)) _
  have hb2 : W0.heap[w.heap.size + 3]? = some (.cells #[.slice none 0 0] 23 (0, 0)) := by rw [← hW0]; exact al_new (by simp)
  have hs0 : W0.heap.size = w.heap.size + 4 := by rw [← hW0]; simp
  unfold ptr at hb1
  rw [hW0]
  clear hW0
  have hseq := from1 (n := 5) (by omega) (H.out.below hB0) hb1 hb2 hB0.size
  refine range_mine (F := Fence.wide) (n := 6) rfl (by omega) (gf := 48) rfl trivial (enters_of Try.func48 (by kernel_rfl) rfl) hseq
    (fun l o hst _ hl _ => (hst.block l (Array.getElem?_eq_some_iff.1 hl).1).trans hl) (fun h k => h.trans k) (fun W l o o' _ hl ho _ => Kq.put hl ho)
    (fun xs W l o o' hwl hl ho hS => ⟨hS.1, fun x hx => ⟨own_put hl ho (hS.2 x hx).1, (hS.2 x hx).2⟩⟩) (Below.refl _ _) (fun _ => rfl)
    (SeekI w) (fun pre A B h hst => h.step hst) (fun pre W l o o' hwl hl ho h => h.put (by omega) hl ho) (fun W o h => h.step ((Below.refl _ W).alloc (Nat.le_refl _) _)) hI0
    (fun _ _ _ => False) (fun _ _ _ _ h _ => h) (fun _ _ _ _ _ _ _ _ _ h => h)
    (SeekR w L ns) (fun pre x a' W l o o' hwl hl ho h => h.put (by omega) hl ho) ?assign ?body ?done (fun _ _ _ _ _ h _ => h.elim)
  case assign =>
    intro l pre x W K hI hX hK
    unfold Ent.v entV
    gi_wp2
    have hb := (Below.refl W.heap.size W).alloc (Nat.le_refl _) (.cells #[.slice x.A x.k.length x.c, .int .u64 x.a.c, .bool x.a.o, .int .i64 x.a.hi, .int .u64 x.a.lo, .int .i64 x.a.mn, .int .i64 x.a.mx] 47)
    exact hK _ _ ⟨W.heap.size, al_new rfl, rfl, hI.step hb, hX⟩ hb (Kq.of_below hb)
  case body =>
    rintro l pre x a' W ⟨e, he, rfl, ⟨⟨v, hv, hown⟩, hm, hB⟩, hX⟩
    obtain ⟨i0, hi, hzz⟩ := Option.map_eq_some_iff.1 info7
    simp only [Prod.mk.injEq] at hzz
    obtain ⟨hz0, hz1, hz2⟩ := hzz
    have c0 : W.cell? ⟨w.heap.size + 1, 0, none⟩ = some v := (blk_cell hv 0).trans rfl
    have e0 : W.cell? ⟨e, 0, none⟩ = some (.slice x.A x.k.length x.c) := (blk_cell he 0).trans rfl
    have e1 : W.cell? ⟨e, 1, none⟩ = some (.int .u64 x.a.c) := (blk_cell he 1).trans rfl
    have e2 : W.cell? ⟨e, 2, none⟩ = some (.bool x.a.o) := (blk_cell he 2).trans rfl
    have e3 : W.cell? ⟨e, 3, none⟩ = some (.int .i64 x.a.hi) := (blk_cell he 3).trans rfl
    have e4 : W.cell? ⟨e, 4, none⟩ = some (.int .u64 x.a.lo) := (blk_cell he 4).trans rfl
    have e5 : W.cell? ⟨e, 5, none⟩ = some (.int .i64 x.a.mn) := (blk_cell he 5).trans rfl
    have e6 : W.cell? ⟨e, 6, none⟩ = some (.int .i64 x.a.mx) := (blk_cell he 6).trans rfl
    have hl63 : pre.length ≤ 1000 := by omega
    have hBs := hB.size
    gi_wp2_with (first
      | (gi_at_builtin; refine wpListIn_append_own_at _ rfl _ _ 49 rfl w.heap.size 47 i0 _ 7 72 Try.underlying49 hi hz0 hz1 hz2 rfl (by decide) _ _ _ rfl (hown.alloc _) ⟨W.heap.size, 0, none⟩ 1 1 x.cells rfl rfl (cells_new W x) (cells_one x) (by simp only [maxLen]; omega) (by omega) (by simp [World.size_alloc]; omega) ?_; intro v' w3 hown' hg3 hnil3 hat3
         obtain ⟨g', cap', cur', rfl, hbase', hgb', hr1, hr2, hr3, hr4⟩ := own_some hown' (by omega)
         have hv3 := row_box hv hown hg3
         have hm3 := row_box hm hown hg3
         obtain ⟨hc3, hf3⟩ := cell_of_box hv3
         obtain ⟨hc4, hf4⟩ := cell_of_box hm3
         go_frame)
      | fail)
    refine ⟨?_, ?_, ?_⟩
    · exact ((KeepsOthers.alloc _ _).trans (KeepsOthers.of_grownBy hg3 (fun j o hj ho => by
          obtain ⟨cs, hc⟩ := own_typed (hown.alloc _) j hj
          rw [hc] at ho
          cases ho
          rfl))).trans (KeepsOthers.setCell _ _ _)
    · exact seek_kq hown hg3 hv
    · exact ⟨⟨_, blk_put hv3 0 _ rfl, by
          have h := own_move (w1 := w3.setCell ⟨w.heap.size + 1, 0, none⟩ (.slice (some ⟨g', 0, none⟩) (pre.length + 1) cap')) hown' (fun k hk => Below.heap_setCell _ _ _ _ (fun e => by
            obtain ⟨cs, hc⟩ := own_typed hown' k hk
            subst e
            rw [hv3] at hc
            simp at hc))
          simpa using h⟩, (Below.heap_setCell _ _ _ _ (by simp)).trans hm3, ((hB.alloc hB.size _).grown hg3 (by simp; omega) (fun k hk => (hown.lt k hk).1)).setCell (p := ⟨w.heap.size + 1, 0, none⟩) (by simp) _⟩
  case done =>
    rintro D xs W hD hS ⟨⟨v, hv, hown⟩, hm, hB⟩ hK
    obtain ⟨hc3, hf3⟩ := cell_of_box hv
    gi_wp2
    refine ⟨by simp, .inl ⟨_, _, rfl, run_takeDeferred hK, ?_⟩⟩
    exact ⟨_, results_tmp rfl _ _ _, v, xs, rfl, own_put hK rfl hown, ⟨hS.1, fun x hx => ⟨own_put hK rfl (hS.2 x hx).1, (hS.2 x hx).2⟩⟩, hB.grown (⟨rfl, rfl, rfl, by simp, fun k _ hk => World.putObj_heap_other (fun e => hk (by rw [e]))⟩ : W.grownBy (W.putObj D (.deferred none)) (some D)) hB.size (fun k e => by cases e; omega)⟩
set_option maxRecDepth 100000 in
theorem all_c {w : World} {base L : Nat} {ns : List Nd} (hsk : SkAt w base L ns) (hlen : ns.length ≤ 1000) : Calls Try.prog 12 #[ptr L] w fun e w' => ∃ (v : Value) (xs : List Ent), e = .returned v ∧ w'.ownsRow w.heap.size 47 7 v xs.length (xs.flatMap Ent.cells) ∧
    (xs.map (fun x => (x.k, x.a)) = cont ns ∧ ∀ x ∈ xs, EntOk w.heap.size w' x ∧ x.k.length ≤ x.c) ∧ Below w.heap.size w w' := by
  have H := Aside0.mk hsk
  clear hsk
  unfold ptr
  go_enter Try.func12, Try.ntmps12
  go_wp2_with (first | (refine (seek_c H.out hlen).mono ?_; rintro e w2 ⟨v, xs, rfl, ho, hS, hB⟩) | fail)
  go_ret
  exact ⟨v, xs, rfl, ho, hS, hB⟩
end Go.Proofs.Ytkpkhggjhpikdaa.Top
