/-
  wal.Read on a batch; conditions: those that each theorem states.
-/
import Derived.Test.YtnmiipcoojijiaaDoorGJ
import Derived.Scope
namespace Go.Proofs.YtnmiipcoojijiaaDoor.Top
set_option linter.unusedSimpArgs false
set_option linter.unusedVariables false
open Go.RowKit Go.Shelf Go.Proofs.YtnmiipcoojijiaaDoorW.PrintWords Go.Proofs.YtnmiipcoojijiaaDoorW.PrintLast Go.Proofs.YtnmiipcoojijiaaDoorW.PrintMore Go.Proofs.YtnmiipcoojijiaaDoor.Plain Go.Proofs.YtnmiipcoojijiaaDoor.Fns
attribute [local go_sem] Oper.semAt_some
theorem wpIn_scope_wide {n : Nat} {P : Program} {c : Code} {Q : Exit → Act → World → Prop} {a : Act} {w : World} (h : c.wpIn Fence.wide n P (Exit.noGoto Q) a w) : (Code.scope c).wpIn Fence.wide n P Q a w := wpIn_wide.2 (wp_scope_straight (wpIn_wide.1 h))
theorem wrap_one {u : Nat} (h : u ≤ 3) : wrap64 (1 + (u : Int)) = ((1 + u : Nat) : Int) ∧ IntKind.i64.wrap (1 + (u : Int)) = ((1 + u : Nat) : Int) := by
  refine ⟨?_, ?_⟩
  · unfold wrap64
    omega
  · rw [IntKind.wrap_i64]
    omega
theorem facts_c (w : World) (A : Option Addr) (m c n : Nat) : Calls Tryd.prog 48 #[.slice A m c, .int .u64 n] w fun e w' => e = .returned (.func (.func 59) #[] #[.pointer (some ⟨w.heap.size + 1, 0, none⟩), .pointer (some ⟨w.heap.size, 0, none⟩)]) ∧ w' = (w.alloc (.cells #[.slice A m c] 60)).alloc (.cells #[.int .u64 n] 86) := by
  go_enter Tryd.func48, Tryd.ntmps48
  go_wp2
  go_ret
  exact ⟨rfl, rfl⟩
def Fy.cells (x : Fy) : List Value := [.slice x.A x.s.f0.length x.c, .int .i64 x.s.f1, .int .i64 x.s.f2]
/-- What the loop over a batch's facts holds. -/
structure RdI (w : World) (S : Nat) (pre : List Fy) (W : World) : Prop where
  rb : W.heap[w.heap.size]? = some (.cells #[.slice none 0 0, .int .i64 0] 37 (0, 0))
  xb : ∃ v, W.heap[w.heap.size + 1]? = some (.cells #[v, .int .i64 (-1)] 37 (0, 0)) ∧ W.ownsRow (S + 3) 59 3 v pre.length (pre.flatMap Fy.cells)
  kb : W.heap[w.heap.size + 2]? = some (.cells #[.bool true] 4 (0, 0))
  sb : ∃ (ra : Addr) (m rc : Nat), W.heap[S]? = some (.cells #[.slice (some ra) m rc] 60 (0, 0)) ∧ ∀ x, pre.getLast? = some x → m = x.m
  dims : ∀ x ∈ pre, YOk (S + 3) W x
  be : Below w.heap.size w W
  sz : S + 3 ≤ W.heap.size
theorem RdI.move {w W W1 : World} {S : Nat} {pre : List Fy} (h : RdI w S pre W) (hs : W.heap.size ≤ W1.heap.size) (hb : Below w.heap.size w W1) (hk : ∀ (k : Nat) (cs : Array Value) (e : TypeId), W.heap[k]? = some (.cells cs e (0, 0)) → k ≠ S + 1 → W1.heap[k]? = W.heap[k]?) (hS : S = w.heap.size + 3) : RdI w S pre W1 := by
  obtain ⟨v, hx, ho⟩ := h.xb
  obtain ⟨ra, m, rc, hsb, hm⟩ := h.sb
  have ho' : ∀ {e : TypeId} {size n : Nat} {u : Value} {xs : List Value}, W.ownsRow (S + 3) e size u n xs → W1.ownsRow (S + 3) e size u n xs := fun hu => own_move hu (fun k hk' => by
    obtain ⟨cs, hc⟩ := own_typed hu k hk'
    exact hk k cs _ hc (by have := (hu.lt k hk').1; omega))
  exact ⟨(hk _ _ _ h.rb (by omega)).trans h.rb, ⟨v, (hk _ _ _ hx (by omega)).trans hx, ho' ho⟩, (hk _ _ _ h.kb (by omega)).trans h.kb, ⟨ra, m, rc, (hk _ _ _ hsb (by omega)).trans hsb, hm⟩, fun x hx => ho' (h.dims x hx), hb, Nat.le_trans h.sz hs⟩
theorem RdI.step {w W W1 : World} {S : Nat} {pre : List Fy} (h : RdI w S pre W) (hg : Sq (S + 1) W W1) (hS : S = w.heap.size + 3) : RdI w S pre W1 :=
  h.move hg.size (h.be.grown hg h.be.size (fun k hk => by cases hk; omega)) (fun k cs e hk hne => hg.block k (blk_lt hk) (by simp; exact hne)) hS
theorem RdI.put {w W : World} {S l : Nat} {pre : List Fy} {o o' : Obj} (h : RdI w S pre W) (hw : w.heap.size ≤ l) (hl : W.heap[l]? = some o) (ho : o.isCells = false) (hS : S = w.heap.size + 3) : RdI w S pre (W.putObj l o') :=
  h.move (Nat.le_of_eq (put_size W l o').symm) (h.be.grown (⟨rfl, rfl, rfl, by simp, fun k _ hk => World.putObj_heap_other (fun e => hk (by rw [e]))⟩ : W.grownBy (W.putObj l o') (some l)) h.be.size (fun k e => by cases e; exact hw)) (fun k cs e hk _ => put_far hl ho hk) hS
theorem RdI.alloc {w W : World} {S : Nat} {pre : List Fy} (h : RdI w S pre W) (o : Obj) (hS : S = w.heap.size + 3) : RdI w S pre (W.alloc o) :=
  h.move (by simp) (h.be.alloc h.be.size _) (fun k cs e hk _ => Below.heap_alloc _ _ _ (blk_lt hk)) hS
theorem rd_far {W w3 : World} {S n k : Nat} {v : Value} {xs : List Value} {cs cs' : Array Value} {e : TypeId} (ho : W.ownsRow (S + 3) 59 3 v n xs) (hg : (W.alloc (.cells cs' 59)).grownBy w3 v.ownBlock) (hk : W.heap[k]? = some (.cells cs e (0, 0))) (he : e ≠ 59) : w3.heap[k]? = some (.cells cs e (0, 0)) :=
  (hg.block k (by rw [World.size_alloc]; have := blk_lt hk; omega) (fun e0 => by
    obtain ⟨c2, hc⟩ := own_typed ho k e0.symm
    rw [hk] at hc
    simp only [Option.some.injEq, Obj.cells.injEq] at hc
    exact he hc.2.1)).trans (al_old hk _)
theorem rd_snoc {w W w3 : World} {S : Nat} {pre : List Fy} {x : Fy} {v v' : Value} (h : RdI w S pre W) (hS : S = w.heap.size + 3) (hx : W.heap[w.heap.size + 1]? = some (.cells #[v, .int .i64 (-1)] 37 (0, 0))) (ho : W.ownsRow (S + 3) 59 3 v pre.length (pre.flatMap Fy.cells))
    (hg : (W.alloc (.cells #[.slice x.A x.s.f0.length x.c, .int .i64 x.s.f1, .int .i64 x.s.f2] 59)).grownBy w3 v.ownBlock) (hown : w3.ownsRow (S + 3) 59 3 v' (pre.length + 1) (pre.flatMap Fy.cells ++ x.cells)) (hyo : YOk (S + 3) W x) :
    KeepsOthers W ((w3.setCell ⟨w.heap.size + 1, 0, none⟩ v').setCell ⟨S, 0, none⟩ (.slice (some x.ra) x.m x.rc)) ∧ Kq (S + 2) (S + 1) W ((w3.setCell ⟨w.heap.size + 1, 0, none⟩ v').setCell ⟨S, 0, none⟩ (.slice (some x.ra) x.m x.rc)) ∧ RdI w S (pre ++ [x]) ((w3.setCell ⟨w.heap.size + 1, 0, none⟩ v').setCell ⟨S, 0, none⟩ (.slice (some x.ra) x.m x.rc)) := by
  have hsz := h.sz
  have hlt := hg.size
  rw [World.size_alloc] at hlt
  obtain ⟨ra, m, rc, hsb, _⟩ := h.sb
  have far : ∀ (k : Nat) (cs : Array Value) (e : TypeId), W.heap[k]? = some (.cells cs e (0, 0)) → e ≠ 59 → w3.heap[k]? = some (.cells cs e (0, 0)) := fun k cs e hk he => rd_far ho hg hk he
  have set2 : ∀ k : Nat, k ≠ w.heap.size + 1 → k ≠ S → ((w3.setCell ⟨w.heap.size + 1, 0, none⟩ v').setCell ⟨S, 0, none⟩ (.slice (some x.ra) x.m x.rc)).heap[k]? = w3.heap[k]? := fun k h1 h2 => (Below.heap_setCell _ _ _ _ (by simpa using h2)).trans (Below.heap_setCell _ _ _ _ (by simpa using h1))
  have hxr := blk_put (far _ _ _ hx (by decide)) 0 v' rfl
  have hsr : (w3.setCell ⟨w.heap.size + 1, 0, none⟩ v').heap[S]? = some (.cells #[.slice (some ra) m rc] 60 (0, 0)) := (Below.heap_setCell _ _ _ _ (by simp; omega)).trans (far _ _ _ hsb (by decide))
  have key : ∀ k : Nat, k < W.heap.size → some k ≠ v.ownBlock → k ≠ w.heap.size + 1 → k ≠ S → ((w3.setCell ⟨w.heap.size + 1, 0, none⟩ v').setCell ⟨S, 0, none⟩ (.slice (some x.ra) x.m x.rc)).heap[k]? = W.heap[k]? := fun k hk h0 h1 h2 => (set2 k h1 h2).trans ((hg.block k (by rw [World.size_alloc]; omega) h0).trans (Below.heap_alloc _ _ _ hk))
  have hnv : ∀ k, k < S + 3 → some k ≠ v.ownBlock := fun k hk e => by
    have := (ho.lt k e.symm).1
    omega
  have hst : ∀ {n : Nat} {u : Value} {xs : List Value}, W.ownsRow (S + 3) 9 1 u n xs → ((w3.setCell ⟨w.heap.size + 1, 0, none⟩ v').setCell ⟨S, 0, none⟩ (.slice (some x.ra) x.m x.rc)).ownsRow (S + 3) 9 1 u n xs := fun {n u xs} hu => own_move hu (fun k hk' => by
    obtain ⟨c2, hc⟩ := own_typed hu k hk'
    have hge := (hu.lt k hk').1
    exact (set2 k (by omega) (by omega)).trans ((far k c2 _ hc (by decide)).trans hc.symm))
  refine ⟨(((KeepsOthers.alloc _ _).trans (KeepsOthers.of_grownBy hg (fun j o hj ho' => by
      obtain ⟨cs, hc⟩ := own_typed (ho.alloc (.cells #[.slice x.A x.s.f0.length x.c, .int .i64 x.s.f1, .int .i64 x.s.f2] 59)) j hj
      rw [hc] at ho'
      cases ho'
      rfl))).trans (KeepsOthers.setCell _ _ _)).trans (KeepsOthers.setCell _ _ _), ⟨by simp; omega, key _ (by omega) (hnv _ (by omega)) (by omega) (by omega), key _ (by omega) (hnv _ (by omega)) (by omega) (by omega), fun k cs e hk he => ?_⟩, ?_⟩
  · have he' : e ≠ 59 := by rcases he with rfl | rfl <;> decide
    have h1 : k ≠ w.heap.size + 1 := fun e0 => by
      rw [e0, hx] at hk
      simp only [Option.some.injEq, Obj.cells.injEq] at hk
      rcases he with rfl | rfl
      · exact absurd hk.2.1 (by decide)
      · exact absurd hk.2.1 (by decide)
    have h2 : k ≠ S := fun e0 => by
      rw [e0, hsb] at hk
      simp only [Option.some.injEq, Obj.cells.injEq] at hk
      rcases he with rfl | rfl
      · exact absurd hk.2.1 (by decide)
      · exact absurd hk.2.1 (by decide)
    exact (set2 k h1 h2).trans ((far k cs e hk he').trans hk.symm)
  · refine ⟨(key _ (by omega) (hnv _ (by omega)) (by omega) (by omega)).trans h.rb, ⟨v', ?_, ?_⟩, (key _ (by omega) (hnv _ (by omega)) (by omega) (by omega)).trans h.kb, ⟨x.ra, x.m, x.rc, blk_put hsr 0 _ rfl, fun y hy => ?_⟩, fun y hy => ?_, ?_, by simp; omega⟩
    · exact (Below.heap_setCell _ _ _ _ (by simp; omega)).trans hxr
    · rw [List.length_append, List.length_singleton, List.flatMap_append, List.flatMap_singleton]
      exact own_move hown (fun k hk' => set2 k (by have := (hown.lt k hk').1; omega) (by have := (hown.lt k hk').1; omega))
    · rw [List.getLast?_append] at hy
      simp at hy
      rw [hy]
    · rcases List.mem_append.1 hy with hy | hy
      · exact hst (h.dims y hy)
      · rw [List.mem_singleton.1 hy]
        exact hst hyo
    · exact (((h.be.alloc h.be.size _).grown hg (by rw [World.size_alloc]; omega) (fun k hk => by have := (ho.lt k hk).1; omega)).setCell (p := ⟨w.heap.size + 1, 0, none⟩) (by simp) _).setCell (p := ⟨S, 0, none⟩) (by simp; omega) _
def Fy.fc (x : Fy) : Fc := ⟨x.A, x.c, x.s⟩
/-- The record that was read. -/
theorem rd_done {w W : World} {S N : Nat} {xs : List Fy} {fs : List Lib.S59} (h : RdI w S xs W) (hS : S = w.heap.size + 3) (hx : xs.map Fy.s = fs) (hc : YCame fs (S + 3) xs W) (hN : N = fs.length) (h0 : N ≠ 0) (h16 : N ≤ 16) (hfs : ∀ s ∈ fs, mayB s = true ∧ (-9223372036854775808 ≤ s.f2 ∧ s.f2 < 9223372036854775808)) :
    ∃ (r : Rc) (ra : Addr) (rc : Nat), r.fs = fs ∧ r.m = -1 ∧ r.ok = true ∧ RcOwn (S + 3) W r ∧ r.xs.length = N ∧ W.heap[w.heap.size + 1]? = some (.cells #[.slice r.R N r.c, .int .i64 (-1)] 37 (0, 0)) ∧ W.heap[S]? = some (.cells #[.slice (some ra) 0 rc] 60 (0, 0)) := by
  have hxl : xs.length = N := by rw [hN, ← hx, List.length_map]
  obtain ⟨v, hv, ho⟩ := h.xb
  obtain ⟨ra, m, rc, hsb, hm⟩ := h.sb
  have hm0 : m = 0 := by
    cases hl : xs.getLast? with
    | none => rw [List.getLast?_eq_none_iff] at hl; rw [hl] at hxl; simp at hxl; omega
    | some x => rw [hm x hl, hc.2.2.2 x hl, hxl, hN, restF_end]; rfl
  subst hm0
  rcases ho.2 with ⟨rfl, hn⟩ | ⟨g, cap, cur, rfl, hb, hg, hcap, r⟩
  · omega
  have hfl : (xs.map Fy.fc).flatMap Fc.cells = xs.flatMap Fy.cells := by rw [List.flatMap_map]; rfl
  have hfsr : (⟨some ⟨g, 0, none⟩, g, 0, cap, xs.map Fy.fc, -1⟩ : Rc).fs = fs := by
    unfold Rc.fs
    rw [List.map_map, ← hx]
    rfl
  have hall : fs.all mayB = true := List.all_eq_true.2 (fun s hs => (hfs s hs).1)
  refine ⟨⟨some ⟨g, 0, none⟩, g, 0, cap, xs.map Fy.fc, -1⟩, ra, rc, hfsr, rfl, ?_, ⟨?_, fun x hx' => ?_, fun _ => rfl, fun x hx' => ?_, ⟨by rw [List.length_map]; omega, fun x hx' => ?_⟩⟩, by rw [List.length_map]; exact hxl, by rw [← hxl]; exact hv, hsb⟩
  · unfold Rc.ok
    rw [hfsr]
    unfold rightR
    rw [if_neg (by omega), hall]
    simp
    omega
  · show W.ownsRow (S + 3) 59 3 (.slice (some ⟨g, 0, none⟩) (xs.map Fy.fc).length cap) (xs.map Fy.fc).length ((xs.map Fy.fc).flatMap Fc.cells)
    rw [List.length_map, hfl]
    exact ho
  · obtain ⟨y, hy, rfl⟩ := List.mem_map.1 hx'
    exact h.dims y hy
  · obtain ⟨y, hy, rfl⟩ := List.mem_map.1 hx'
    exact (hfs _ (by rw [← hx]; exact List.mem_map.2 ⟨y, hy, rfl⟩)).2
  · obtain ⟨y, hy, rfl⟩ := List.mem_map.1 hx'
    exact (may_dims (hfs _ (by rw [← hx]; exact List.mem_map.2 ⟨y, hy, rfl⟩)).1).1
/-- The frame of a round. -/
def RdA (w : World) (S : Nat) (a : Addr) (L c N u : Nat) (fs : List Lib.S59) (pre : List Fy) (x : Fy) (a' : Act) (W : World) : Prop :=
  ∃ q, a' = { tmps := #[.slice (some a) L c, undef, .pointer (some ⟨w.heap.size, 0, none⟩), .int .i64 0, .pointer (some ⟨w.heap.size + 1, 0, none⟩), .pointer (some ⟨w.heap.size + 1 + 1, 0, none⟩), .int .u64 N, .int .i64 u, .int .i64 0, .pointer (some ⟨S, 0, none⟩), .pointer (some ⟨q, 0, none⟩), .slice (some x.ra) x.m x.rc, .slice (some a) L c, .int .i64 L, .bool true, .bool false, .bool true, .bool true, .slice (some a) L c, .pointer (some a), .int .u8 1, .bool false, .bool false, .bool false, undef, undef, undef, .bool false, undef, undef, undef, undef, undef, undef, undef, undef, .bool true, .bool true, .bool true, .slice (some a) L c, .pointer (some a), .int .u8 1, .bool true, .bool true, .tuple #[.int .u64 N, .int .i64 u, .int .i64 0], .slice (some a) L c, .slice (some (cutA a 1 c)) (L - 1) (c - 1), .tuple #[.int .u64 N, .int .i64 u, .int .i64 0], .int .u64 N, .int .i64 u, .int .i64 0, .int .i64 0, .bool true, .bool true, .int .u64 N, .bool true, .bool true, .bool true, .int .u64 N, .bool true, .bool true, .pointer (some ⟨w.heap.size + 1, 1, none⟩), .bool true, .bool false, .slice (some a) L c, .int .i64 u, .int .i64 (1 + u), .slice (some (cutA a (1 + u) c)) (L - (1 + u)) (c - (1 + u)), .slice (some (cutA a (1 + u) c)) (L - (1 + u)) (c - (1 + u)), .int .u64 N, .func (.func 59) #[] #[.pointer (some ⟨S + 1 + 1, 0, none⟩), .pointer (some ⟨S + 1, 0, none⟩)], .agg #[.slice x.A x.s.f0.length x.c, .int .i64 x.s.f1, .int .i64 x.s.f2], .slice (some x.ra) x.m x.rc, undef, undef, undef, undef, undef, undef, undef, undef, undef, undef, undef, undef, undef, undef, undef, undef, undef, undef, undef, undef, undef, undef, undef, undef, undef], defers := [] } ∧
    W.heap[q]? = some (.cells #[.slice x.A x.s.f0.length x.c, .int .i64 x.s.f1, .int .i64 x.s.f2] 59 (0, 0)) ∧ RdI w S pre W ∧ YCame fs (S + 3) (pre ++ [x]) W
theorem info_fact : (Tryd.prog.info? 59).map (fun i => (i.zero, i.size, i.bytes)) = some (some (.agg #[.slice none 0 0, .int .i64 0, .int .i64 0]), 3, 40) := by kernel_rfl
set_option maxRecDepth 100000 in
set_option maxHeartbeats 8000000 in
theorem rbatch_c {w : World} {a : Addr} {c L : Nat} {fs : List Lib.S59} (h0 : fs.length ≠ 0) (h16 : fs.length ≤ 16) (hfs : ∀ s ∈ fs, mayB s = true ∧ (-9223372036854775808 ≤ s.f2 ∧ s.f2 < 9223372036854775808)) (hL : L = ((1 :: sh fs.length) ++ fs.flatMap factB).length) (hr : RdB w (some a) ((1 :: sh fs.length) ++ fs.flatMap factB)) (hty : ∃ cs, w.heap[a.block]? = some (.cells cs 5 (0, 0))) (hc : L ≤ c) (hl : L ≤ 10000) :
    Calls Tryd.prog 28 #[.slice (some a) L c] w (ReadR fs (-1) w) := by
  have hby : Byt (restF fs 0) := by
    unfold restF
    exact byt_flat factB_byt _
  have hfl : restF fs 0 = fs.flatMap factB := rfl
  obtain ⟨N, hN⟩ : ∃ N, N = fs.length := ⟨_, rfl⟩
  obtain ⟨u, hu⟩ : ∃ u, u = (sh N).length := ⟨_, rfl⟩
  rw [← hN] at hr hL h0 h16
  rw [← hfl] at hr hL
  obtain ⟨M, hM⟩ : ∃ M, M = (restF fs 0).length := ⟨_, rfl⟩
  have hu3 : 1 ≤ u ∧ u ≤ 3 := by rw [hu]; exact ⟨sh_length_pos _, sh_length_le 2 N (by omega)⟩
  have hLM : L = 1 + u + M := by rw [hL, List.length_append, List.length_cons, hu, hM]; omega
  have hx0 : ∀ W, Below w.heap.size w W → W.cell? a = some (.int .u8 1) := fun W hW => by
    have h9 := rd_at (hr.below hW) (j := 0) (by simp)
    exact h9
  have q1 := cut_lo a L c 1 (1 : Int) rfl (by omega)
  have q2 := cut_lo a L c (1 + u) (1 + (u : Int)) (by omega) (by omega)
  have hd1 : (((1 : Int) :: sh N) ++ restF fs 0).drop 1 = sh N ++ restF fs 0 := rfl
  have hd2 : (((1 : Int) :: sh N) ++ restF fs 0).drop (1 + u) = restF fs 0 := by
    rw [show 1 + u = ((1 : Int) :: sh N).length by rw [List.length_cons, hu]; omega, List.drop_append_of_le_length (Nat.le_refl _), List.drop_length, List.nil_append]
  have hr1 : RdB w (some (cutA a 1 c)) (sh N ++ restF fs 0) := by
    have h9 := cutA_rd (i := 1) hr (by rw [← hL]; exact hc)
    rw [hd1] at h9
    exact h9
  have hr2 : RdB w (some (cutA a (1 + u) c)) (restF fs 0) := by
    have h9 := cutA_rd (i := 1 + u) hr (by rw [← hL]; exact hc)
    rw [hd2] at h9
    exact h9
  have hl1 : (sh N ++ restF fs 0).length = L - 1 := by rw [List.length_append, ← hu, ← hM]; omega
  have HRS : Aside0 (∀ W, Below w.heap.size w W → Calls Tryd.prog 47 #[.slice (some (cutA a 1 c)) (L - 1) (c - 1)] W fun e w' => e = .returned (.tuple #[.int .u64 N, .int .i64 u, .int .i64 0]) ∧ Drawn0 W w') := ⟨fun W hB => by
    have h9 := readShort_c (w := W) (A := some (cutA a 1 c)) (c := c - 1) (u := N) (more := restF fs 0) (by omega) (hr1.below hB) hby (by omega) (by omega)
    rw [hl1, ← hu] at h9
    exact h9⟩
  have HC2 := Aside0.mk (And.intro hr2 (And.intro hM (And.intro (cut_block a (1 + u) c) (And.intro hty (And.intro hfs hN)))))
  obtain ⟨W3, hW3⟩ : ∃ W3, ((w.alloc (.cells #[.slice none 0 0, .int .i64 0] 37)).alloc (.cells #[.slice none 0 0, .int .i64 0] 37)).alloc (.cells #[.bool true] 4) = W3 := ⟨_, rfl⟩
  have hb3 : Below w.heap.size w W3 := by rw [← hW3]; exact (((Below.refl _ w).alloc (Nat.le_refl _) _).alloc (by simp) _).alloc (by simp; omega) _
  have hb0 : W3.heap[w.heap.size]? = some (.cells #[.slice none 0 0, .int .i64 0] 37 (0, 0)) := by rw [← hW3]; exact al_old (al_old (al_new rfl) _) _
  have hb1 : W3.heap[w.heap.size + 1]? = some (.cells #[.slice none 0 0, .int .i64 0] 37 (0, 0)) := by rw [← hW3]; exact al_old (al_new (by simp)) _
  have hb2 : W3.heap[w.heap.size + 2]? = some (.cells #[.bool true] 4 (0, 0)) := by rw [← hW3]; exact al_new (by simp)
  have hs3 : W3.heap.size = w.heap.size + 3 := by rw [← hW3]; simp
  have H3 := Aside0.mk (And.intro hW3 (And.intro hb3 (And.intro hb0 (And.intro hb1 (And.intro hb2 hs3)))))
  have x0 : (((w.alloc (.cells #[.slice none 0 0, .int .i64 0] 37)).alloc (.cells #[.slice none 0 0, .int .i64 0] 37)).alloc (.cells #[.bool true] 4)).cell? a = some (.int .u8 1) := by
    rw [hW3]
    exact hx0 W3 hb3
  have t1 : decide (0 < (L : Int)) = true := decide_eq_true (by omega)
  have t2 : decide (0 < L) = true := decide_eq_true (by omega)
  have g1 : (0 : Int) < (L : Int) := by omega
  have g2 : 0 < L := by omega
  have u1 : decide (1 ≤ N) = true := decide_eq_true (by omega)
  have u2 : decide (N ≤ 16) = true := decide_eq_true h16
  have u3 : decide (1 ≤ (N : Int)) = true := decide_eq_true (by omega)
  have u4 : decide ((N : Int) ≤ 16) = true := decide_eq_true (by omega)
  have e1 : wrap64 (1 + (u : Int)) = ((1 + u : Nat) : Int) := (wrap_one hu3.2).1
  have e2 : IntKind.i64.wrap (1 + (u : Int)) = ((1 + u : Nat) : Int) := (wrap_one hu3.2).2
  have HLM := Aside0.mk (And.intro hLM (And.intro hc hl))
  have H16 := Aside0.mk h16
  have HN0 := Aside0.mk h0
  clear hr hL hu hM hN hd1 hd2 hr1 hr2 hl1 hx0 hW3 hb3 hb0 hb1 hb2 hs3 hby hfl hty hfs hLM hc hl h0 h16 hu3
  refine (callsIn_wide (n := 6)).1 ?_
  refine callsIn_of_wp_marks Tryd.func28 rfl trivial ?_ rfl
  simp only [Tryd.ntmps28, List.size_toArray, List.length_cons, List.length_nil, Nat.reduceAdd, Nat.reduceSub, Array.replicate_succ, Array.replicate_zero, List.push_toArray, List.append_toArray, List.nil_append, List.cons_append]
  gi_wp2
  refine wpIn_scope_wide ?_
  gi_wp2_with (first
    | (refine ⟨trivial, ?_⟩
       have hnew : H3 = H3 := rfl
       rw [H3.out.1]
       refine (callsIn_wide.2 (HRS.out W3 H3.out.2.1)).mono ?_
       rintro e w4 ⟨rfl, hd4⟩
       have hd0 := hd4.below
       have HD4 := Aside0.mk (And.intro hd4 hd0)
       have k2 := (hd0.block _ (blk_lt H3.out.2.2.2.2.1)).trans H3.out.2.2.2.2.1
       have k1 := (hd0.block _ (blk_lt H3.out.2.2.2.1)).trans H3.out.2.2.2.1
       have y2 : w4.cell? ⟨w.heap.size + 2, 0, none⟩ = some (.bool true) := (blk_cell k2 0).trans rfl
       have f2 := blk_frozen k2 0
       have k2' := blk_put k2 0 (.bool true) rfl
       have k1' : (w4.setCell ⟨w.heap.size + 2, 0, none⟩ (.bool true)).heap[w.heap.size + 1]? = some (.cells #[.slice none 0 0, .int .i64 0] 37 (0, 0)) := (Below.heap_setCell _ _ _ _ (by simp)).trans k1
       have y1 : (w4.setCell ⟨w.heap.size + 2, 0, none⟩ (.bool true)).cell? ⟨w.heap.size + 1, 1, none⟩ = some (.int .i64 0) := (blk_cell k1' 1).trans rfl
       have f1 := blk_frozen k1' 1
       have k2'' : ((w4.setCell ⟨w.heap.size + 2, 0, none⟩ (.bool true)).setCell ⟨w.heap.size + 1, 1, none⟩ (.int .i64 (-1))).heap[w.heap.size + 2]? = some (.cells #[.bool true] 4 (0, 0)) := (Below.heap_setCell _ _ _ _ (by simp)).trans k2'
       have z2 : ((w4.setCell ⟨w.heap.size + 2, 0, none⟩ (.bool true)).setCell ⟨w.heap.size + 1, 1, none⟩ (.int .i64 (-1))).cell? ⟨w.heap.size + 2, 0, none⟩ = some (.bool true) := (blk_cell k2'' 0).trans rfl
       clear hnew k1 k2 k2' k1' k2'' hd0 hd4)
    | fail)
  refine wpIn_label ?_
  gi_wp2_with (first
    | (refine ⟨trivial, ?_⟩
       have hd4' := HD4.out
       refine (callsIn_wide.2 (facts_c _ _ _ _ _)).mono ?_
       rintro e w5 ⟨rfl, rfl⟩
       clear hd4')
    | fail)
  obtain ⟨S, hS⟩ : ∃ S, S = w4.heap.size := ⟨_, rfl⟩
  have hS3 : S = w.heap.size + 3 := by
    obtain ⟨nd, hnd⟩ := HD4.out.1
    rw [hS, hnd]
    exact H3.out.2.2.2.2.2
  rw [← hS]
  obtain ⟨W0, hW0⟩ : ∃ W0, ((((w4.setCell ⟨w.heap.size + 1 + 1, 0, none⟩ (.bool true)).setCell ⟨w.heap.size + 1, 1, none⟩ (.int .i64 (-1))).alloc (.cells #[.slice (some (cutA a (1 + u) c)) (L - (1 + u)) (c - (1 + u))] 60)).alloc (.cells #[.slice (some (cutA a (1 + u) c)) (L - (1 + u)) (c - (1 + u))] 60)).alloc (.cells #[.int .u64 N] 86) = W0 := ⟨_, rfl⟩
  rw [hW0]
  have hI0 : RdI w S [] W0 ∧ W0.heap.size = S + 3 ∧ W0.heap[S + 2]? = some (.cells #[.int .u64 N] 86 (0, 0)) ∧ W0.heap[S + 1]? = some (.cells #[.slice (some (cutA a (1 + u) c)) (L - (1 + u)) (c - (1 + u))] 60 (0, 0)) := by
    have hb4 := HD4.out.2
    have k0 := (hb4.block _ (blk_lt H3.out.2.2.1)).trans H3.out.2.2.1
    have k1 := (hb4.block _ (blk_lt H3.out.2.2.2.1)).trans H3.out.2.2.2.1
    have k2 := (hb4.block _ (blk_lt H3.out.2.2.2.2.1)).trans H3.out.2.2.2.2.1
    have k2' := blk_put k2 0 (.bool true) rfl
    have k1' : (w4.setCell ⟨w.heap.size + 2, 0, none⟩ (.bool true)).heap[w.heap.size + 1]? = some (.cells #[.slice none 0 0, .int .i64 0] 37 (0, 0)) := (Below.heap_setCell _ _ _ _ (by simp)).trans k1
    have k1'' := blk_put k1' 1 (.int .i64 (-1)) rfl
    have k2'' : ((w4.setCell ⟨w.heap.size + 2, 0, none⟩ (.bool true)).setCell ⟨w.heap.size + 1, 1, none⟩ (.int .i64 (-1))).heap[w.heap.size + 2]? = some (.cells #[.bool true] 4 (0, 0)) := (Below.heap_setCell _ _ _ _ (by simp)).trans k2'
    have k0'' : ((w4.setCell ⟨w.heap.size + 2, 0, none⟩ (.bool true)).setCell ⟨w.heap.size + 1, 1, none⟩ (.int .i64 (-1))).heap[w.heap.size]? = some (.cells #[.slice none 0 0, .int .i64 0] 37 (0, 0)) := (Below.heap_setCell _ _ _ _ (by simp)).trans ((Below.heap_setCell _ _ _ _ (by simp)).trans k0)
    have hbe := ((H3.out.2.1.trans (hb4.mono H3.out.2.1.size)).setCell (p := ⟨w.heap.size + 2, 0, none⟩) (by simp) (.bool true)).setCell (p := ⟨w.heap.size + 1, 1, none⟩) (by simp) (.int .i64 (-1))
    have hsz : ((w4.setCell ⟨w.heap.size + 2, 0, none⟩ (.bool true)).setCell ⟨w.heap.size + 1, 1, none⟩ (.int .i64 (-1))).heap.size = S := by simp [hS]
    rw [← hW0]
    show RdI w S [] (((((w4.setCell ⟨w.heap.size + 2, 0, none⟩ (.bool true)).setCell ⟨w.heap.size + 1, 1, none⟩ (.int .i64 (-1))).alloc _).alloc _).alloc _) ∧ _
    generalize (w4.setCell ⟨w.heap.size + 2, 0, none⟩ (.bool true)).setCell ⟨w.heap.size + 1, 1, none⟩ (.int .i64 (-1)) = Wb at *
    exact ⟨⟨al_old (al_old (al_old k0'' _) _) _, ⟨.slice none 0 0, al_old (al_old (al_old k1'' _) _) _, World.ownsRow_nil _ _ _ _⟩, al_old (al_old (al_old k2'' _) _) _, ⟨_, _, _, al_old (al_old (al_new hsz.symm) _) _, fun x hx => (by cases hx)⟩, fun x hx => (by cases hx), ((hbe.alloc (by rw [hsz]; omega) _).alloc (by rw [World.size_alloc, hsz]; omega) _).alloc (by rw [World.size_alloc, World.size_alloc, hsz]; omega) _, by simp [World.size_alloc, hsz]⟩, by simp [World.size_alloc, hsz], al_new (by simp [World.size_alloc, hsz]), al_old (al_new (by simp [World.size_alloc, hsz])) _⟩
  obtain ⟨hI0, hs0, hnb0, hbb0⟩ := hI0
  clear hW0 hS y2 f2 y1 f1 z2 x0
  obtain ⟨hr2, hM, hcb, hty, hfs, hN⟩ := HC2.out
  have hB0 := hI0.be
  have hty0 : ∃ cs, W0.heap[(cutA a (1 + u) c).block]? = some (.cells cs 5 (0, 0)) := by
    obtain ⟨cs, hcs⟩ := hty
    exact ⟨cs, by rw [hcb]; exact (hB0.block _ (blk_lt hcs)).trans hcs⟩
  have hLu : L - (1 + u) = (restF fs 0).length := by rw [← hM]; have := HLM.out; omega
  have hseq := facts1 (n := 5) (by omega) (w := W0) (nb := S + 2) (bb := S + 1) (n₀ := S + 3) (N := N) (fs := fs) hfs hN.symm H16.out (hr2.below hB0) hty0 (by rw [← hLu]; exact Nat.sub_le_sub_right HLM.out.2.1 _) (by rw [← hLu]; have := HLM.out.2.2; omega) hnb0 (by rw [← hLu]; exact hbb0) (by omega)
  have HFS := Aside0.mk (And.intro hfs hN)
  have HS3 := Aside0.mk hS3
  have HS0 := Aside0.mk hs0
  have hdm : (∀ (pre : List Fy) (x : Fy) (W : World), YCame fs (S + 3) (pre ++ [x]) W → 0 ≤ x.s.f1 ∧ pre.length < 16 ∧ YOk (S + 3) W x) := fun pre x W hx => by
    have hm : x.s ∈ fs := by
      have h1 := hx.1
      have h2 : x.s ∈ (pre ++ [x]).map Fy.s := by simp
      rw [h1] at h2
      exact List.mem_of_mem_take h2
    have this1 := (may_dims (hfs _ hm).1).2.2.1
    have h3 := hx.2.1
    rw [List.length_append, List.length_singleton, ← hN] at h3
    have := H16.out
    exact ⟨this1, by omega, hx.2.2.1 x (by simp)⟩
  have HDM := Aside0.mk hdm
  clear hr2 hM hcb hty hfs hN hty0 hLu hdm
  refine range_mine (F := Fence.wide) (n := 6) rfl (by omega) (gf := 59) rfl trivial (enters_of Tryd.func59 (by kernel_rfl) rfl) hseq
    (fun l o hst hwl hl ho => ?_) (fun h k => h.trans k) (fun W l o o' hwl hl ho _ => Kq.put hl ho (by omega) (by omega))
    (fun xs W l o o' hwl hl ho hS => ⟨hS.1, hS.2.step (fun k cs hk => put_far hl ho hk)⟩) (Below.refl _ _) (fun _ => rfl)
    (RdI w S) (fun pre A B h hst => h.step hst HS3.out) (fun pre W l o o' hwl hl ho h => h.put (by omega) hl ho HS3.out) (fun W o h => h.alloc o HS3.out) hI0
    (fun _ _ _ => False) (fun _ _ _ _ h _ => h) (fun _ _ _ _ _ _ _ _ _ h => h)
    (RdA w S a L c N u fs) (fun pre x a' W l o o' hwl hl ho h => ?_) ?assign ?body ?done (fun _ _ _ _ _ h _ => h.elim)
  · exact (hst.block l (Array.getElem?_eq_some_iff.1 hl).1 (by simp; omega)).trans hl
  · obtain ⟨q, e, hq, hi, hx⟩ := h
    exact ⟨q, e, (put_far hl ho hq).trans hq, hi.put (by omega) hl ho HS3.out, hx.step (fun k cs hk => put_far hl ho hk)⟩
  case assign =>
    intro l pre x W K hI hX hK
    simp only [Fy.enc]
    clear hS3 hs0 hnb0 hbb0 hB0 hI0 hseq
    gi_wp2
    have hsz := hI.sz
    exact hK _ _ ⟨W.heap.size, rfl, al_new rfl, hI.alloc _ HS3.out, hX.step (fun k cs hk => Below.heap_alloc _ _ _ (blk_lt hk))⟩ ((Below.refl _ _).alloc (Nat.le_refl _) _) (Kq.of_below ((Below.refl _ _).alloc (Nat.le_refl _) _) (by omega) (by omega))
  case body =>
    rintro l pre x a' W ⟨q, rfl, hq, hI, hX⟩
    clear hS3 hs0 hnb0 hbb0 hB0 hI0 hseq
    obtain ⟨t5, hp16, hyo⟩ := HDM.out pre x W hX
    obtain ⟨v, hx, ho⟩ := hI.xb
    obtain ⟨ra, m, rc, hsb, hlast⟩ := hI.sb
    have c0 : W.cell? ⟨q, 0, none⟩ = some (.slice x.A x.s.f0.length x.c) := (blk_cell hq 0).trans rfl
    have c1 : W.cell? ⟨q, 1, none⟩ = some (.int .i64 x.s.f1) := (blk_cell hq 1).trans rfl
    have c2 : W.cell? ⟨q, 2, none⟩ = some (.int .i64 x.s.f2) := (blk_cell hq 2).trans rfl
    have c3 : W.cell? ⟨w.heap.size + 1, 0, none⟩ = some v := (blk_cell hx 0).trans rfl
    have t6 : decide (x.s.f1 < 0) = false := decide_eq_false (by omega)
    have HX := Aside0.mk (And.intro hX (And.intro hyo (And.intro hI (And.intro hx (And.intro hsb hq)))))
    have hB := hI.be.size
    have hZ := hI.sz
    clear t5 hX hyo hI hlast
    obtain ⟨i0, hi, hzz⟩ := Option.map_eq_some_iff.1 info_fact
    simp only [Prod.mk.injEq] at hzz
    obtain ⟨hz0, hz1, hz2⟩ := hzz
    gi_wp2_with (first
      | (gi_at_builtin; refine wpListIn_append_own_at _ rfl _ _ 35 rfl (S + 3) 59 i0 _ 3 40 Tryd.underlying35 hi hz0 hz1 hz2 rfl (by decide) _ _ _ rfl (ho.alloc _) ⟨W.heap.size, 0, none⟩ 1 1 x.cells rfl rfl (World.news_of_block (cs := #[.slice x.A x.s.f0.length x.c, .int .i64 x.s.f1, .int .i64 x.s.f2]) (t := 59) (fr := (0, 0)) (heap_alloc_new W _)) (fun u hu => by
           simp only [Fy.cells, List.mem_cons, List.not_mem_nil, or_false] at hu
           rcases hu with rfl | rfl | rfl <;> rfl) (by simp only [maxLen]; omega) (by omega) (by simp [World.size_alloc]; omega) ?_; intro v' w3 hown' hg3 hnil3 hat3
         obtain ⟨g', cap', cur', rfl, _⟩ := own_some hown' (by omega)
         have far : ∀ (k : Nat) (cs : Array Value) (e : TypeId), W.heap[k]? = some (.cells cs e (0, 0)) → e ≠ 59 → w3.heap[k]? = some (.cells cs e (0, 0)) := fun k cs e hk he => rd_far ho hg3 hk he
         have hx3 := far _ _ _ HX.out.2.2.2.1 (by decide)
         have hs3 := far _ _ _ HX.out.2.2.2.2.1 (by decide)
         have y0 : w3.cell? ⟨w.heap.size + 1, 0, none⟩ = some v := (blk_cell hx3 0).trans rfl
         have f0 := blk_frozen hx3 0
         have hs4 : (w3.setCell ⟨w.heap.size + 1, 0, none⟩ (.slice (some ⟨g', 0, none⟩) (pre.length + 1) cap')).heap[S]? = some (.cells #[.slice (some ra) m rc] 60 (0, 0)) := (Below.heap_setCell _ _ _ _ (by have := HS3.out; simp; omega)).trans hs3
         have y1 : (w3.setCell ⟨w.heap.size + 1, 0, none⟩ (.slice (some ⟨g', 0, none⟩) (pre.length + 1) cap')).cell? ⟨S, 0, none⟩ = some (.slice (some ra) m rc) := (blk_cell hs4 0).trans rfl
         have f1 := blk_frozen hs4 0
         have HFIN := Aside0.mk (rd_snoc HX.out.2.2.1 HS3.out HX.out.2.2.2.1 ho hg3 hown' HX.out.2.1)
         clear far hx3 hs3 hs4 hown' hg3 hnil3 hat3)
      | fail)
    exact HFIN.out
  case done =>
    rintro D xs W hD ⟨hS1, hS2⟩ hI hK
    clear hS3 hs0 hnb0 hbb0 hB0 hI0 hseq
    obtain ⟨r, ra, rc, hrf, hrm, hrok, hown, hrl, hxb, hsb⟩ := rd_done hI HS3.out hS1 hS2 HFS.out.2 HN0.out H16.out HFS.out.1
    have c2 : W.cell? ⟨w.heap.size + 2, 0, none⟩ = some (.bool true) := (blk_cell hI.kb 0).trans rfl
    have c3 : W.cell? ⟨S, 0, none⟩ = some (.slice (some ra) 0 rc) := (blk_cell hsb 0).trans rfl
    have f2 := blk_frozen hI.kb 0
    have hkb' := blk_put hI.kb 0 (.bool true) rfl
    have y2 : (W.setCell ⟨w.heap.size + 2, 0, none⟩ (.bool true)).cell? ⟨w.heap.size + 2, 0, none⟩ = some (.bool true) := (blk_cell hkb' 0).trans rfl
    have hxb' : (W.setCell ⟨w.heap.size + 2, 0, none⟩ (.bool true)).heap[w.heap.size + 1]? = some (.cells #[.slice r.R N r.c, .int .i64 (-1)] 37 (0, 0)) := (Below.heap_setCell _ _ _ _ (by simp)).trans hxb
    have y0 : (W.setCell ⟨w.heap.size + 2, 0, none⟩ (.bool true)).cell? ⟨w.heap.size + 1, 0, none⟩ = some (.slice r.R N r.c) := (blk_cell hxb' 0).trans rfl
    have y1 : (W.setCell ⟨w.heap.size + 2, 0, none⟩ (.bool true)).cell? ⟨w.heap.size + 1, 1, none⟩ = some (.int .i64 (-1)) := (blk_cell hxb' 1).trans rfl
    have hown' : RcOwn (S + 3) (W.setCell ⟨w.heap.size + 2, 0, none⟩ (.bool true)) r := hown.move (fun k cs e hk he => Below.heap_setCell _ _ _ _ (fun e0 => by
      rw [show k = w.heap.size + 2 from e0, hI.kb] at hk
      simp only [Option.some.injEq, Obj.cells.injEq] at hk
      rcases he with rfl | rfl
      · exact absurd hk.2.1 (by decide)
      · exact absurd hk.2.1 (by decide)))
    have hrb' : (W.setCell ⟨w.heap.size + 2, 0, none⟩ (.bool true)).heap[w.heap.size]? = some (.cells #[.slice none 0 0, .int .i64 0] 37 (0, 0)) := (Below.heap_setCell _ _ _ _ (by simp)).trans hI.rb
    have hD' : (W.setCell ⟨w.heap.size + 2, 0, none⟩ (.bool true)).heap[D]? = some (.deferred (some [])) := (Below.heap_setCell _ _ _ _ (by have := HS3.out; have := HS0.out; simp; omega)).trans hK
    have hbe' := hI.be.setCell (p := ⟨w.heap.size + 2, 0, none⟩) (by simp) (.bool true)
    have hright := right_c hown'.rd
    rw [hrok] at hright
    unfold Rc.v at hright
    rw [hrl, hrm] at hright
    have HE := Aside0.mk (And.intro hown' (And.intro hrb' (And.intro hD' (And.intro hbe' (And.intro hxb' (And.intro hrf (And.intro hrm hrl)))))))
    have HRI := Aside0.mk hright
    clear hown hown' hrb' hD' hbe' hright hrf hrm hrok hrl hI hS2 hS1 hxb hsb hkb' hxb' hK
    gi_wp2
    simp only [Exit.noGoto]
    gi_wp2_with (first
      | (refine ⟨trivial, ?_⟩
         refine (callsIn_wide.2 HRI.out).mono ?_
         rintro e w5 ⟨rfl, hb5⟩
         have k0 := (hb5.block _ (blk_lt HE.out.2.1)).trans HE.out.2.1
         have k1 := (hb5.block _ (blk_lt HE.out.2.2.2.2.1)).trans HE.out.2.2.2.2.1
         have r0 : w5.cell? ⟨w.heap.size, 0, none⟩ = some (.slice none 0 0) := (blk_cell k0 0).trans rfl
         have r1 : w5.cell? ⟨w.heap.size, 1, none⟩ = some (.int .i64 0) := (blk_cell k0 1).trans rfl
         have g0' := blk_frozen k0 0
         have g1' := blk_frozen k0 1
         have z0 : w5.cell? ⟨w.heap.size + 1, 0, none⟩ = some (.slice r.R N r.c) := (blk_cell k1 0).trans rfl
         have z1 : w5.cell? ⟨w.heap.size + 1, 1, none⟩ = some (.int .i64 (-1)) := (blk_cell k1 1).trans rfl
         have H5 := Aside0.mk (And.intro hb5 k0)
         clear k0 k1 hb5)
      | fail)
    obtain ⟨h1, h2, h3, h4, h5, h6, h7, h8⟩ := HE.out
    have hW6 := blk_put (blk_put H5.out.2 0 (.slice r.R N r.c) rfl) 1 (.int .i64 (-1)) rfl
    have hb6 : Below w.heap.size w ((w5.setCell ⟨w.heap.size, 0, none⟩ (.slice r.R N r.c)).setCell ⟨w.heap.size, 1, none⟩ (.int .i64 (-1))) := ((h4.trans (H5.out.1.mono h4.size)).setCell (p := ⟨w.heap.size, 0, none⟩) (Nat.le_refl _) _).setCell (p := ⟨w.heap.size, 1, none⟩) (Nat.le_refl _) _
    have hDl := (Array.getElem?_eq_some_iff.1 h3).1
    have hD6 : ((w5.setCell ⟨w.heap.size, 0, none⟩ (.slice r.R N r.c)).setCell ⟨w.heap.size, 1, none⟩ (.int .i64 (-1))).heap[D]? = some (.deferred (some [])) := (Below.heap_setCell _ _ _ _ (by have := HS0.out; have := HS3.out; simp; omega)).trans ((Below.heap_setCell _ _ _ _ (by have := HS0.out; have := HS3.out; simp; omega)).trans ((H5.out.1.block D hDl).trans h3))
    have ho6 : RcOwn (S + 3) ((w5.setCell ⟨w.heap.size, 0, none⟩ (.slice r.R N r.c)).setCell ⟨w.heap.size, 1, none⟩ (.int .i64 (-1))) r := (h1.below H5.out.1).move (fun k cs e hk he => by
      have hne : k ≠ w.heap.size := fun e0 => by
        rw [e0, H5.out.2] at hk
        simp only [Option.some.injEq, Obj.cells.injEq] at hk
        rcases he with rfl | rfl
        · exact absurd hk.2.1 (by decide)
        · exact absurd hk.2.1 (by decide)
      exact (Below.heap_setCell _ _ _ _ (by simpa using hne)).trans (Below.heap_setCell _ _ _ _ (by simpa using hne)))
    refine ⟨by simp, .inl ⟨_, _, rfl, run_takeDeferred hD6, ?_⟩⟩
    generalize (w5.setCell ⟨w.heap.size, 0, none⟩ (.slice r.R N r.c)).setCell ⟨w.heap.size, 1, none⟩ (.int .i64 (-1)) = W6 at *
    have hrow : (W6.putObj D (.deferred none)).heap[w.heap.size]? = some (.cells #[.slice r.R N r.c, .int .i64 (-1)] 37 (0, 0)) := (put_far hD6 rfl hW6).trans hW6
    refine ⟨_, results_row_tmp rfl _ _ w.heap.size 37 #[.slice r.R N r.c, .int .i64 (-1)] (0, 0) _ rfl hrow Tryd.underlying37 rfl (by kernel_rfl), ?_⟩
    refine ⟨r, ?_, h6, h7, (ho6.move (fun k cs e hk _ => put_far hD6 rfl hk)).low (by have := HS3.out; omega), hb6.grown (⟨rfl, rfl, rfl, by simp, fun k _ hk => World.putObj_heap_other (fun e => hk (by rw [e]))⟩ : W6.grownBy (W6.putObj D (.deferred none)) (some D)) hb6.size (fun k e => by cases e; have := HS0.out; have := HS3.out; omega)⟩
    unfold Rc.v
    rw [h8, h7]
    rfl
end Go.Proofs.YtnmiipcoojijiaaDoor.Top
