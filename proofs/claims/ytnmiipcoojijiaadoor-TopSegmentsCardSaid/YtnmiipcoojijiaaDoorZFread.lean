/-
  wal.fact reads a fact's bytes back; conditions: those that each theorem states.
-/
import Derived.Test.YtnmiipcoojijiaaDoorZWrite
namespace Go.Proofs.YtnmiipcoojijiaaDoor.Top
set_option linter.unusedSimpArgs false
set_option linter.unusedVariables false
open Go.RowKit Go.Proofs.YtnmiipcoojijiaaDoorW.PrintWords Go.Proofs.YtnmiipcoojijiaaDoorW.PrintLast Go.Proofs.YtnmiipcoojijiaaDoorW.PrintMore Go.Proofs.YtnmiipcoojijiaaDoor.Plain Go.Proofs.YtnmiipcoojijiaaDoor.Fns
theorem results3_cell {fn : Func} {p u q : Tmp} {ty : TypeId} (h : fn.results = #[.cell p ty, .tmp u, .tmp q]) (tmps : Array Value) (P : Program) (w : World) :
    (results fn tmps).run P w =
      ((asAddr (tmps.getD p undef)).run P w).andThen fun a w₁ => ((loadVar ty a).run P w₁).andThen fun v w₂ => .ok (.tuple #[v, tmps.getD u undef, tmps.getD q undef]) w₂ := by
  simp only [results, h]
  simp [Sem.run_bind, Result.andThen]
theorem results3_row {P : Program} {fn : Func} {p u q : Tmp} {ty : TypeId} (h : fn.results = #[.cell p ty, .tmp u, .tmp q]) (tmps : Array Value) (w : World) (g : Nat) (t : TypeId) (cs : Array Value) (fr : Nat × Nat) (d : TypeDesc)
    (hp : tmps.getD p undef = .pointer (some ⟨g, 0, none⟩)) (hg : w.heap[g]? = some (.cells cs t fr))
    (hu : P.underlying ty = some d) (hd : (match d with | .struct _ | .array _ _ => true | _ => false) = true) (hi : (P.info? ty).map (·.size) = some cs.size) :
    (results fn tmps).run P w = .ok (.tuple #[.agg cs, tmps.getD u undef, tmps.getD q undef]) w := by
  rw [results3_cell h, hp]
  simp [asAddr, run_loadVar_row w g t ty cs fr d hg hu hd hi, Result.andThen]
/-- Texts in a row of one's own can be read. -/
theorem own_rds {W : World} {base : Nat} {v : Value} {ss : List ByteArray} (h : W.ownsRow base 9 1 v ss.length (ss.map Value.string)) (hl : ss.length ≤ 1000000) : ∃ A c, v = .slice A ss.length c ∧ RdS W A ss ∧ ss.length ≤ c := by
  rcases h.2 with ⟨rfl, h0⟩ | ⟨g, cap, cur, rfl, hb, hg, hnc, _, hsz, ht⟩
  · have : ss = [] := List.length_eq_zero_iff.1 h0
    subst this
    exact ⟨none, 0, rfl, ⟨rfl, by simp, fun h => absurd h (by simp)⟩, Nat.le_refl _⟩
  · refine ⟨some ⟨g, 0, none⟩, cap, rfl, ⟨rfl, by omega, fun _ => ⟨_, rfl, fun j p hp => ?_⟩⟩, hnc⟩
    obtain ⟨hj, rfl⟩ := List.getElem?_eq_some_iff.1 hp
    refine ⟨[.string ss[j]], rfl, rfl, fun i u hu => ?_⟩
    rcases i with _ | i
    · simp at hu
      subst hu
      have h9 : (cur.toList.take (ss.length * 1))[j]? = some (.string ss[j]) := by rw [ht]; simp [hj]
      rw [List.getElem?_take_of_lt (by omega)] at h9
      have hadd : (⟨g, 0, none⟩ : Addr).add (j * Kd.string.sz + 0) = ⟨g, j, none⟩ := by
        rw [show j * Kd.string.sz + 0 = j by show j * 1 + 0 = j; omega]
        unfold Addr.add
        split <;> simp_all
      rw [hadd, blk_cell hg j]
      simpa using h9
    · simp at hu
/-- What is left of a fact's bytes behind some of its dimensions. -/
def leftB (s : Lib.S59) (more : List Int) (t : Nat) : List Int := (s.f0.drop t).flatMap dimB ++ (numB s.f1 ++ (numB s.f2 ++ more))
theorem leftB_step (s : Lib.S59) (more : List Int) {t : Nat} (h : t < s.f0.length) : leftB s more t = dimB s.f0[t] ++ leftB s more (t + 1) := by
  unfold leftB
  rw [List.drop_eq_getElem_cons h, List.flatMap_cons, List.append_assoc]
theorem leftB_end (s : Lib.S59) (more : List Int) : leftB s more s.f0.length = numB s.f1 ++ (numB s.f2 ++ more) := by
  unfold leftB
  simp
theorem factB_left (s : Lib.S59) (more : List Int) : factB s ++ more = sh s.f0.length ++ leftB s more 0 := by
  unfold factB leftB
  simp
theorem leftB_byt (s : Lib.S59) {more : List Int} (h : Byt more) (t : Nat) : Byt (leftB s more t) := byt_app (byt_flat dimB_byt _) (byt_app (numB_byt _) (byt_app (numB_byt _) h))
/-- The state of a fact that is being read. -/
structure FrI (w : World) (ds : List ByteArray) (t : Nat) (A : Option Addr) (c : Nat) (x1 x2 : Int) (W : World) : Prop where
  rb : W.heap[w.heap.size]? = some (.cells #[.slice none 0 0, .int .i64 0, .int .i64 0] 59 (0, 0))
  xb : W.heap[w.heap.size + 1]? = some (.cells #[.slice A t c, .int .i64 x1, .int .i64 x2] 59 (0, 0))
  own : W.ownsRow w.heap.size 9 1 (.slice A t c) t ((ds.take t).map Value.string)
  be : Below w.heap.size w W
theorem FrI.below {w W W1 : World} {ds : List ByteArray} {t : Nat} {A : Option Addr} {c : Nat} {x1 x2 : Int} (h : FrI w ds t A c x1 x2 W) (hb : Below W.heap.size W W1) : FrI w ds t A c x1 x2 W1 :=
  ⟨(hb.block _ (blk_lt h.rb)).trans h.rb, (hb.block _ (blk_lt h.xb)).trans h.xb, own_below h.own hb, h.be.trans (hb.mono h.be.size)⟩
theorem FrI.cells {w W : World} {ds : List ByteArray} {t : Nat} {A : Option Addr} {c : Nat} {x1 x2 : Int} (h : FrI w ds t A c x1 x2 W) :
    W.cell? ⟨w.heap.size + 1, 0, none⟩ = some (.slice A t c) ∧ W.cell? ⟨w.heap.size + 1, 1, none⟩ = some (.int .i64 x1) ∧ W.cell? ⟨w.heap.size + 1, 2, none⟩ = some (.int .i64 x2) ∧ W.frozen? ⟨w.heap.size + 1, 0, none⟩ = false ∧ W.frozen? ⟨w.heap.size + 1, 1, none⟩ = false ∧ W.frozen? ⟨w.heap.size + 1, 2, none⟩ = false :=
  ⟨(blk_cell h.xb 0).trans rfl, (blk_cell h.xb 1).trans rfl, (blk_cell h.xb 2).trans rfl, blk_frozen h.xb 0, blk_frozen h.xb 1, blk_frozen h.xb 2⟩
/-- One dimension more. -/
theorem FrI.dim {w W W1 : World} {ds : List ByteArray} {t : Nat} {A A' : Option Addr} {c c' : Nat} (h : FrI w ds t A c 0 0 W) (ht : t < ds.length) (hg : (W.alloc (.cells #[.string ds[t]] 9)).grownBy W1 (Value.slice A t c).ownBlock)
    (ho : W1.ownsRow w.heap.size 9 1 (.slice A' (t + 1) c') (t + 1) ((ds.take t).map Value.string ++ [.string ds[t]])) : FrI w ds (t + 1) A' c' 0 0 (W1.setCell ⟨w.heap.size + 1, 0, none⟩ (.slice A' (t + 1) c')) ∧ W1.cell? ⟨w.heap.size + 1, 0, none⟩ = some (.slice A t c) ∧ W1.frozen? ⟨w.heap.size + 1, 0, none⟩ = false := by
  have far : ∀ (b : Nat) (cs : Array Value), W.heap[b]? = some (.cells cs 59 (0, 0)) → W1.heap[b]? = some (.cells cs 59 (0, 0)) := fun b cs hb =>
    (hg.block b (by rw [World.size_alloc]; have := blk_lt hb; omega) (fun e => by
      obtain ⟨cs', hc⟩ := own_typed h.own b e.symm
      rw [hb] at hc
      simp only [Option.some.injEq, Obj.cells.injEq] at hc
      exact absurd hc.2.1 (by decide))).trans (al_old hb _)
  have hx := far _ _ h.xb
  have hr := far _ _ h.rb
  have hbk : ∀ k, (Value.slice A t c).ownBlock = some k → w.heap.size ≤ k := fun k hk => (h.own.lt k hk).1
  refine ⟨⟨(Below.heap_setCell _ _ _ _ (by simp)).trans hr, blk_put hx 0 _ rfl, own_move ?_ (fun k hk => Below.heap_setCell _ _ _ _ (fun e => ?_)), ((h.be.alloc h.be.size _).grown hg (by rw [World.size_alloc]; have := h.be.size; omega) hbk).setCell (p := ⟨w.heap.size + 1, 0, none⟩) (by simp) _⟩, (blk_cell hx 0).trans rfl, blk_frozen hx 0⟩
  · rw [List.take_succ_eq_append_getElem ht, List.map_append]
    exact ho
  · obtain ⟨cs', hc⟩ := own_typed ho k hk
    rw [show k = w.heap.size + 1 from e, hx] at hc
    simp only [Option.some.injEq, Obj.cells.injEq] at hc
    exact absurd hc.2.1 (by decide)
theorem FrI.set1 {w W : World} {ds : List ByteArray} {t : Nat} {A : Option Addr} {c : Nat} {x1 x2 : Int} (h : FrI w ds t A c x1 x2 W) (v : Int) : FrI w ds t A c v x2 (W.setCell ⟨w.heap.size + 1, 1, none⟩ (.int .i64 v)) := by
  refine ⟨(Below.heap_setCell _ _ _ _ (by simp)).trans h.rb, blk_put h.xb 1 _ rfl, own_move h.own (fun k hk => Below.heap_setCell _ _ _ _ (fun e => ?_)), h.be.setCell (p := ⟨w.heap.size + 1, 1, none⟩) (by simp) _⟩
  obtain ⟨cs', hc⟩ := own_typed h.own k hk
  rw [show k = w.heap.size + 1 from e, h.xb] at hc
  simp only [Option.some.injEq, Obj.cells.injEq] at hc
  exact absurd hc.2.1 (by decide)
theorem FrI.set2 {w W : World} {ds : List ByteArray} {t : Nat} {A : Option Addr} {c : Nat} {x1 x2 : Int} (h : FrI w ds t A c x1 x2 W) (v : Int) : FrI w ds t A c x1 v (W.setCell ⟨w.heap.size + 1, 2, none⟩ (.int .i64 v)) := by
  refine ⟨(Below.heap_setCell _ _ _ _ (by simp)).trans h.rb, blk_put h.xb 2 _ rfl, own_move h.own (fun k hk => Below.heap_setCell _ _ _ _ (fun e => ?_)), h.be.setCell (p := ⟨w.heap.size + 1, 2, none⟩) (by simp) _⟩
  obtain ⟨cs', hc⟩ := own_typed h.own k hk
  rw [show k = w.heap.size + 1 from e, h.xb] at hc
  simp only [Option.some.injEq, Obj.cells.injEq] at hc
  exact absurd hc.2.1 (by decide)
theorem FrI.fin {w W : World} {ds : List ByteArray} {t : Nat} {A : Option Addr} {c : Nat} {x1 x2 : Int} (h : FrI w ds t A c x1 x2 W) (u0 u1 u2 : Value) :
    (((W.setCell ⟨w.heap.size, 0, none⟩ u0).setCell ⟨w.heap.size, 1, none⟩ u1).setCell ⟨w.heap.size, 2, none⟩ u2).drew.heap[w.heap.size]? = some (.cells #[u0, u1, u2] 59 (0, 0)) ∧ (((W.setCell ⟨w.heap.size, 0, none⟩ u0).setCell ⟨w.heap.size, 1, none⟩ u1).setCell ⟨w.heap.size, 2, none⟩ u2).drew.ownsRow w.heap.size 9 1 (.slice A t c) t ((ds.take t).map Value.string) ∧
    Below w.heap.size w (((W.setCell ⟨w.heap.size, 0, none⟩ u0).setCell ⟨w.heap.size, 1, none⟩ u1).setCell ⟨w.heap.size, 2, none⟩ u2).drew := by
  refine ⟨blk_put (blk_put (blk_put h.rb 0 u0 rfl) 1 u1 rfl) 2 u2 rfl, own_move h.own (fun k hk => ?_), bdrew (((h.be.setCell (p := ⟨w.heap.size, 0, none⟩) (Nat.le_refl _) _).setCell (p := ⟨w.heap.size, 1, none⟩) (Nat.le_refl _) _).setCell (p := ⟨w.heap.size, 2, none⟩) (Nat.le_refl _) _)⟩
  have hne : k ≠ w.heap.size := fun e => by
    obtain ⟨cs', hc⟩ := own_typed h.own k hk
    rw [e, h.rb] at hc
    simp only [Option.some.injEq, Obj.cells.injEq] at hc
    exact absurd hc.2.1 (by decide)
  exact (Below.heap_setCell _ _ _ _ hne).trans ((Below.heap_setCell _ _ _ _ hne).trans (Below.heap_setCell _ _ _ _ hne))
/-- What a fact that is read gives. -/
def FactR (s : Lib.S59) (more : List Int) (a : Addr) (w : World) (e : Ending) (w' : World) : Prop :=
  ∃ (A : Option Addr) (c : Nat) (a' : Addr) (c' : Nat), e = .returned (.tuple #[.agg #[.slice A s.f0.length c, .int .i64 s.f1, .int .i64 s.f2], .slice (some a') more.length c', .bool true]) ∧ w'.ownsRow w.heap.size 9 1 (.slice A s.f0.length c) s.f0.length (s.f0.map Value.string) ∧
    RdB w (some a') more ∧ more.length ≤ c' ∧ a'.block = a.block ∧ Below w.heap.size w w'
theorem cut_block (a : Addr) (i c : Nat) : (cutA a i c).block = a.block := by
  unfold cutA
  split
  · rfl
  · unfold Addr.add
    split <;> rfl
set_option maxRecDepth 100000 in
set_option maxHeartbeats 8000000 in
theorem fact_c {w : World} {a : Addr} {c n : Nat} {s : Lib.S59} {b more : List Int} (hb : b = factB s ++ more) (hn : n = b.length) (hr : RdB w (some a) b) (hm : Byt more) (hc : b.length ≤ c) (hl : b.length ≤ 100000) (hmay : mayB s = true) (hvi : -9223372036854775808 ≤ s.f2 ∧ s.f2 < 9223372036854775808) :
    Calls Tryd.prog 60 #[.slice (some a) n c] w (FactR s more a w) := by
  obtain ⟨hd4, hd16, h10, h11⟩ := may_dims hmay
  have hbl : b = sh s.f0.length ++ leftB s more 0 := by rw [hb, factB_left]
  obtain ⟨ds, at', va⟩ := s
  simp only at hd4 hd16 h10 h11 hvi hbl
  obtain ⟨nd, hnd⟩ : ∃ nd, nd = ds.length := ⟨_, rfl⟩
  have HND := Aside0.mk hnd
  rw [← hnd] at hbl hd4
  have hbyt : Byt (leftB ⟨ds, at', va⟩ more 0) := leftB_byt _ hm 0
  have hll : (leftB ⟨ds, at', va⟩ more 0).length ≤ 100000 := by
    have := congrArg List.length hbl
    rw [List.length_append] at this
    omega
  have HRS : Aside0 (∀ W, Below w.heap.size w W → Calls Tryd.prog 47 #[.slice (some a) n c] W fun e w' => e = .returned (.tuple #[.int .u64 nd, .int .i64 (sh nd).length, .int .i64 0]) ∧ Drawn0 W w') := ⟨fun W hB => by
    have h9 := readShort_c (w := W) (A := some a) (c := c) (u := nd) (more := leftB ⟨ds, at', va⟩ more 0) (by omega) (by rw [← hbl]; exact hr.below hB) hbyt (by omega) (by rw [← hbl]; exact hc)
    rw [← hbl, ← hn] at h9
    exact h9⟩
  obtain ⟨m0, hm0⟩ : ∃ m, m = (leftB ⟨ds, at', va⟩ more 0).length := ⟨_, rfl⟩
  obtain ⟨i0, hi0⟩ : ∃ i, i = (sh nd).length := ⟨_, rfl⟩
  have hni : n = i0 + m0 := by rw [hn, hbl, List.length_append, hi0, hm0]
  have q1 := cut_lo a n c i0 (i0 : Int) rfl (by omega)
  rw [show n - i0 = m0 by omega] at q1
  have hr0 : RdB w (some (cutA a i0 c)) (leftB ⟨ds, at', va⟩ more 0) := by
    have h9 := cutA_rd (i := i0) hr hc
    rw [hbl, hi0, List.drop_append_of_le_length (Nat.le_refl _), List.drop_length, List.nil_append] at h9
    rw [hi0]
    exact h9
  have hcm : m0 ≤ c - i0 := by have := hc; rw [← hn] at this; omega
  rw [← hi0] at HRS
  have HR0 := Aside0.mk (And.intro hr0 (And.intro hcm (And.intro (cut_block a i0 c) (And.intro hm0 (show m0 ≤ 100000 by omega)))))
  have HDS := Aside0.mk (And.intro hd16 (And.intro hm (And.intro h10 (And.intro h11 hvi))))
  have t1 : decide (4 < nd) = false := decide_eq_false (by omega)
  have t2 : decide ((4 : Int) < (nd : Int)) = false := decide_eq_false (by omega)
  clear hb hn hr hm hc hl hmay hbl hbyt hll hm0 hi0 hni hr0 hcm hnd hd16 h10 h11 hvi
  obtain ⟨W0, hW0⟩ : ∃ W0, (w.alloc (.cells #[.slice none 0 0, .int .i64 0, .int .i64 0] 59)).alloc (.cells #[.slice none 0 0, .int .i64 0, .int .i64 0] 59) = W0 := ⟨_, rfl⟩
  have hF0 : FrI w ds 0 none 0 0 0 W0 := by
    rw [← hW0]
    exact ⟨al_old (al_new rfl) _, al_new (by simp), World.ownsRow_nil _ _ _ _, ((Below.refl _ w).alloc (Nat.le_refl _) _).alloc (by simp) _⟩
  have HF0 := Aside0.mk hF0
  have HW0 := Aside0.mk hW0
  clear hF0 hW0
  go_enter Tryd.func60, Tryd.ntmps60
  go_wp2_with (first
    | (go_at_call 47; rw [HW0.out]; refine (HRS.out _ HF0.out.be).mono ?_; rintro e w2 ⟨rfl, hd2⟩
       have HF2 := Aside0.mk (HF0.out.below hd2.below))
    | fail)
  have HZ0 : Aside0 (FrI w ds 0 none 0 0 0 w2 ∧ (RdB w (some (cutA a i0 c)) (leftB ⟨ds, at', va⟩ more 0) ∧ m0 ≤ c - i0 ∧ (cutA a i0 c).block = a.block ∧ m0 = (leftB ⟨ds, at', va⟩ more 0).length ∧ m0 ≤ 100000)) := ⟨HF2.out, HR0.out⟩
  generalize cutA a i0 c = a0 at *
  generalize c - i0 = c0 at *
  clear HR0 q1 t1 t2 hd2
  go_loopw [0, 30] (fun bv i wr => ∃ (t : Nat) (ra : Addr) (m rc : Nat) (A : Option Addr) (dc : Nat), bv = .slice (some ra) m rc ∧ i = .int .u64 t ∧ t ≤ nd ∧ Aside0 (FrI w ds t A dc 0 0 wr ∧ (RdB w (some ra) (leftB ⟨ds, at', va⟩ more t) ∧ m ≤ rc ∧ ra.block = a.block ∧ m = (leftB ⟨ds, at', va⟩ more t).length ∧ m ≤ 100000))) (fun _ i _ => nd - (intOf i).toNat)
  case atStart => exact ⟨0, a0, m0, c0, none, 0, rfl, rfl, by omega, HZ0⟩
  case round =>
    clear HZ0
    obtain ⟨t, ra, m, rc, A, dc, rfl, rfl, ht, HZ⟩ := hrel
    by_cases hlt : t < nd
    · have t1 : decide (t < nd) = true := decide_eq_true hlt
      have t2 : decide ((t : Int) < (nd : Int)) = true := decide_eq_true (by omega)
      have htd : t < ds.length := by rw [← HND.out]; exact hlt
      have hst := leftB_step ⟨ds, at', va⟩ more htd
      have hsz := dimB_len (HDS.out.1 _ (List.getElem_mem htd))
      simp only at hst
      have HRT : Aside0 (∀ W, Below w.heap.size w W → Calls Tryd.prog 76 #[.slice (some ra) m rc] W fun e w' => e = .returned (.tuple #[.string ds[t], .int .i64 (dimB ds[t]).length, .int .i64 0]) ∧ Below W.heap.size W w') := ⟨fun W hB => readText_c hst HZ.out.2.2.2.2.1 (HZ.out.2.1.below hB) (by rw [← HZ.out.2.2.2.2.1]; have := HZ.out.2.2.2.2.2; omega) (by rw [← HZ.out.2.2.2.2.1]; exact HZ.out.2.2.1)⟩
      have hm2 : m = (dimB ds[t]).length + (leftB ⟨ds, at', va⟩ more (t + 1)).length := by rw [HZ.out.2.2.2.2.1, hst, List.length_append]
      have hr2 : RdB w (some (cutA ra (dimB ds[t]).length rc)) (leftB ⟨ds, at', va⟩ more (t + 1)) := by
        have h9 := cutA_rd (i := (dimB ds[t]).length) HZ.out.2.1 (by rw [← HZ.out.2.2.2.2.1]; exact HZ.out.2.2.1)
        rw [hst, List.drop_append_of_le_length (Nat.le_refl _), List.drop_length, List.nil_append] at h9
        exact h9
      obtain ⟨k, hk⟩ : ∃ k, k = (dimB ds[t]).length := ⟨_, rfl⟩
      rw [← hk] at HRT hm2 hr2
      have q1 := cut_lo ra m rc k (k : Int) rfl (by omega)
      have HR2 := Aside0.mk (And.intro hr2 (And.intro (show m - k ≤ rc - k from Nat.sub_le_sub_right HZ.out.2.2.1 k) (And.intro ((cut_block ra k rc).trans HZ.out.2.2.2.1) (And.intro (show m - k = (leftB ⟨ds, at', va⟩ more (t + 1)).length by omega) (show m - k ≤ 100000 by have := HZ.out.2.2.2.2.2; omega)))))
      have HTD := Aside0.mk htd
      have hds4 : t ≤ 4 := by have := hd4; omega
      generalize hdt : ds[t] = dt at *
      have HDT := Aside0.mk hdt
      clear hst hsz hm2 hr2 hk hdt
      obtain ⟨i0, hi, hzz⟩ := Option.map_eq_some_iff.1 info_str
      simp only [Prod.mk.injEq] at hzz
      obtain ⟨hz0, hz1, hz2⟩ := hzz
      go_wp2_with (first
        | (go_at_call 76; refine (HRT.out _ HZ.out.1.be).mono ?_; rintro e w3 ⟨rfl, hb3⟩
           have HF3 := Aside0.mk (HZ.out.1.below hb3)
           obtain ⟨y0, _, _, f0, _, _⟩ := HF3.out.cells)
        | (at_builtin; refine wpList_append_own_at _ rfl (.tmp 42) (.tmp 44) 51 rfl w.heap.size 9 i0 (.string ⟨#[]⟩) 1 16 Tryd.underlying51 hi hz0 hz1 hz2 rfl (by decide) (.slice A t dc) t ((ds.take t).map Value.string) rfl (HF3.out.own.alloc _) ⟨w3.heap.size, 0, none⟩ 1 1 [.string dt] rfl rfl (cell_one_new _ _ _) (fun u hu => by (simp at hu; subst hu; rfl)) (by simp only [maxLen]; omega) (by omega) (by simp [World.size_alloc]; have := HF3.out.be.size; omega) ?_; intro v' w4 hown' hg4 hnil4 hat4
           obtain ⟨g4, c4, cur4, rfl, _⟩ := own_some hown' (by omega)
           rw [← HDT.out] at hg4 hown'
           obtain ⟨hF4, y4, f4⟩ := HF3.out.dim HTD.out hg4 hown'
           have HF4 := Aside0.mk hF4
           clear hF4 hown' hg4 hnil4 hat4)
        | fail)
      exact ⟨⟨t + 1, _, _, _, _, _, rfl, by push_cast; rfl, by omega, ⟨HF4.out, HR2.out⟩⟩, by simp [intOf]; omega⟩
    · obtain rfl : t = nd := by omega
      have t1 : decide (t < t) = false := decide_eq_false hlt
      have t2 : decide ((t : Int) < (t : Int)) = false := decide_eq_false (by omega)
      have hend : leftB ⟨ds, at', va⟩ more t = numB at' ++ (numB va ++ more) := by rw [HND.out]; exact leftB_end ⟨ds, at', va⟩ more
      obtain ⟨hrL, hmrc, hblk, hmL, hmx⟩ := HZ.out.2
      rw [hend] at hrL hmL
      have hm8 : m = 8 + (8 + more.length) := by rw [hmL, List.length_append, List.length_append, numB_len, numB_len]
      have hby2 : Byt (numB va ++ more) := byt_app (numB_byt _) HDS.out.2.1
      have HN1 : Aside0 (∀ W, Below w.heap.size w W → Calls Tryd.prog 46 #[.slice (some ra) m rc] W fun e w' => e = .returned (.tuple #[.int .i64 at', .int .i64 8, .int .i64 0]) ∧ Drawn0 W w') := ⟨fun W hB => readNumber_c (by have := HDS.out.2.2; omega) rfl hmL (hrL.below hB) hby2 (by rw [← hmL]; exact hmrc)⟩
      have q1 := cut_lo ra m rc 8 (8 : Int) rfl (by omega)
      have q2 := cut_lo ra m rc 16 (16 : Int) rfl (by omega)
      have hr8 : RdB w (some (cutA ra 8 rc)) (numB va ++ more) := by
        have h9 := cutA_rd (i := 8) hrL (by rw [← hmL]; exact hmrc)
        rw [show (8 : Nat) = (numB at').length by rw [numB_len], List.drop_append_of_le_length (Nat.le_refl _), List.drop_length, List.nil_append, numB_len] at h9
        exact h9
      have hr16 : RdB w (some (cutA ra 16 rc)) more := by
        have h9 := cutA_rd (i := 16) hrL (by rw [← hmL]; exact hmrc)
        rw [← List.append_assoc, show (16 : Nat) = (numB at' ++ numB va).length by rw [List.length_append, numB_len, numB_len], List.drop_append_of_le_length (Nat.le_refl _), List.drop_length, List.nil_append, List.length_append, numB_len, numB_len] at h9
        exact h9
      have HN2 : Aside0 (∀ W, Below w.heap.size w W → Calls Tryd.prog 46 #[.slice (some (cutA ra 8 rc)) (m - 8) (rc - 8)] W fun e w' => e = .returned (.tuple #[.int .i64 va, .int .i64 8, .int .i64 0]) ∧ Drawn0 W w') := ⟨fun W hB => readNumber_c HDS.out.2.2.2.2 rfl (by rw [List.length_append, numB_len]; omega) (hr8.below hB) HDS.out.2.1 (by rw [List.length_append, numB_len]; omega)⟩
      have HFIN := Aside0.mk (And.intro hr16 (And.intro (show m - 16 = more.length by omega) (And.intro (show more.length ≤ rc - 16 by omega) ((cut_block ra 16 rc).trans hblk))))
      clear hrL hmL hby2 hr8 hr16 hend hm8
      go_wp2_with (first
        | (go_at_call 46; have _h3 := HF3.out; refine (HN2.out _ (HF3.out.set1 at').be).mono ?_; rintro e w4 ⟨rfl, hd4'⟩
           have HF4 := Aside0.mk ((HF3.out.set1 at').below hd4'.below)
           obtain ⟨_, _, y2, _, _, f2⟩ := HF4.out.cells)
        | (go_at_call 46; refine (HN1.out _ HZ.out.1.be).mono ?_; rintro e w3 ⟨rfl, hd3⟩
           have HF3 := Aside0.mk (HZ.out.1.below hd3.below)
           obtain ⟨_, y1, _, _, f1, _⟩ := HF3.out.cells)
        | fail)
      have hF5 := HF4.out.set2 va
      generalize w4.setCell ⟨w.heap.size + 1, 2, none⟩ (.int .i64 va) = w5 at *
      have HF5 := Aside0.mk hF5
      clear hF5 y1 y2 f1 f2
      obtain ⟨y0, y1, y2, _, _, _⟩ := HF5.out.cells
      have r0 : w5.cell? ⟨w.heap.size, 0, none⟩ = some (.slice none 0 0) := (blk_cell HF5.out.rb 0).trans rfl
      have r1 : w5.cell? ⟨w.heap.size, 1, none⟩ = some (.int .i64 0) := (blk_cell HF5.out.rb 1).trans rfl
      have r2 : w5.cell? ⟨w.heap.size, 2, none⟩ = some (.int .i64 0) := (blk_cell HF5.out.rb 2).trans rfl
      have g0 := blk_frozen HF5.out.rb 0
      have g1 := blk_frozen HF5.out.rb 1
      have g2 := blk_frozen HF5.out.rb 2
      go_region_with (fail)
      all_goals
        simp only [List.getElem_toArray, List.getElem_cons_succ, List.getElem_cons_zero, Act.put, List.setIfInBounds_toArray, List.set_cons_zero, List.set_cons_succ]
        go_wp2_with fail
        obtain ⟨r1', r2', r3'⟩ := HF5.out.fin (.slice A t dc) (.int .i64 at') (.int .i64 va)
        rw [List.take_of_length_le (by rw [← HND.out]; exact Nat.le_refl _)] at r2'
        refine bodyPost_ret (results3_row rfl _ _ w.heap.size 59 #[.slice A t dc, .int .i64 at', .int .i64 va] (0, 0) _ rfl r1' Tryd.underlying59 rfl (by kernel_rfl)) rfl ?_
        refine ⟨A, dc, cutA ra 16 rc, rc - 16, ?_, ?_, HFIN.out.1, HFIN.out.2.2.1, HFIN.out.2.2.2, r3'⟩
        · show Ending.returned (.tuple #[.agg #[.slice A t dc, .int .i64 at', .int .i64 va], .slice (some (cutA ra 16 rc)) (m - 16) (rc - 16), .bool true]) = _
          rw [HFIN.out.2.1, HND.out]
        · show World.ownsRow _ w.heap.size 9 1 (.slice A ds.length dc) ds.length (ds.map Value.string)
          rw [← HND.out]
          exact r2'
end Go.Proofs.YtnmiipcoojijiaaDoor.Top
