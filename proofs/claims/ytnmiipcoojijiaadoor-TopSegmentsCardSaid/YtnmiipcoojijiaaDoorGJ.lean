/-
  wal.facts on the facts of a record, one behind the other; conditions: those that each theorem states.
-/
import Derived.Test.YtnmiipcoojijiaaDoorZFread
import Derived.Laws.ResultCell
namespace Go.Proofs.YtnmiipcoojijiaaDoor.Top
set_option linter.unusedSimpArgs false
set_option linter.unusedVariables false
open Go.RowKit Go.Proofs.YtnmiipcoojijiaaDoorW.PrintWords Go.Proofs.YtnmiipcoojijiaaDoorW.PrintLast Go.Proofs.YtnmiipcoojijiaaDoorW.PrintMore Go.Proofs.YtnmiipcoojijiaaDoor.Plain Go.Proofs.YtnmiipcoojijiaaDoor.Fns
/-- A fact that came, and what is left behind it. -/
structure Fy where
  A : Option Addr
  c : Nat
  s : Lib.S59
  ra : Addr
  m : Nat
  rc : Nat
def Fy.enc (x : Fy) : Array Value := #[.agg #[.slice x.A x.s.f0.length x.c, .int .i64 x.s.f1, .int .i64 x.s.f2], .slice (some x.ra) x.m x.rc]
def YOk (n₀ : Nat) (W : World) (x : Fy) : Prop := W.ownsRow n₀ 9 1 (.slice x.A x.s.f0.length x.c) x.s.f0.length (x.s.f0.map Value.string)
/-- The bytes of the facts from one on. -/
def restF (fs : List Lib.S59) (t : Nat) : List Int := (fs.drop t).flatMap factB
theorem restF_step (fs : List Lib.S59) {t : Nat} (h : t < fs.length) : restF fs t = factB fs[t] ++ restF fs (t + 1) := by
  unfold restF
  rw [List.drop_eq_getElem_cons h, List.flatMap_cons]
theorem restF_end (fs : List Lib.S59) : restF fs fs.length = [] := by unfold restF; simp
/-- What a round keeps: bytes, texts, and the iterator's two boxes. -/
def Kq (nb bb : Nat) (W W' : World) : Prop := W.heap.size ≤ W'.heap.size ∧ W'.heap[nb]? = W.heap[nb]? ∧ W'.heap[bb]? = W.heap[bb]? ∧ ∀ (k : Nat) (cs : Array Value) (e : TypeId), W.heap[k]? = some (.cells cs e (0, 0)) → (e = 5 ∨ e = 9) → W'.heap[k]? = W.heap[k]?
theorem Kq.trans {nb bb : Nat} {A B C : World} (h : Kq nb bb A B) (k : Kq nb bb B C) : Kq nb bb A C :=
  ⟨Nat.le_trans h.1 k.1, k.2.1.trans h.2.1, k.2.2.1.trans h.2.2.1, fun b cs e hb he => (k.2.2.2 b cs e ((h.2.2.2 b cs e hb he).trans hb) he).trans (h.2.2.2 b cs e hb he)⟩
theorem Kq.of_below {nb bb : Nat} {A B : World} (h : Below A.heap.size A B) (h1 : nb < A.heap.size) (h2 : bb < A.heap.size) : Kq nb bb A B := ⟨h.size, h.block _ h1, h.block _ h2, fun b cs e hb _ => h.block b (blk_lt hb)⟩
theorem Kq.put {nb bb l : Nat} {W : World} {o o' : Obj} (hl : W.heap[l]? = some o) (ho : o.isCells = false) (h1 : nb ≠ l) (h2 : bb ≠ l) : Kq nb bb W (W.putObj l o') :=
  ⟨by rw [put_size]; exact Nat.le_refl _, World.putObj_heap_other h1, World.putObj_heap_other h2, fun k cs e hb _ => put_far hl ho hb⟩
/-- The iterator's own step: its row of bytes turns. -/
def Sq (bb : Nat) (A B : World) : Prop := A.grownBy B (some bb)
theorem Sq.of_below {bb : Nat} {A B : World} (h : Below A.heap.size A B) : Sq bb A B := ⟨h.os, h.tape, h.output, h.size, fun k hk _ => h.block k hk⟩
theorem ty_rdb {W W' : World} {R : Option Addr} {d : List Int} (hr : RdB W R d) (ht : ∀ a, R = some a → W'.heap[a.block]? = W.heap[a.block]?) : RdB W' R d := by
  refine ⟨hr.1, hr.2.1, fun h0 => ?_⟩
  obtain ⟨a, rfl, hat⟩ := hr.2.2 h0
  have hb := ht a rfl
  refine ⟨a, rfl, fun j p hp => ?_⟩
  obtain ⟨us, h1, h2, h3⟩ := hat j p hp
  refine ⟨us, h1, h2, fun i u hu => ?_⟩
  rw [← h3 i u hu]
  unfold World.cell?
  have hbk : (a.add (j * (Kd.int .u8).sz + i)).block = a.block := by
    unfold Addr.add
    split <;> rfl
  rw [hbk, hb]
/-- What is known of the facts that came. -/
def YCame (fs : List Lib.S59) (n₀ : Nat) (xs : List Fy) (W : World) : Prop := xs.map Fy.s = fs.take xs.length ∧ xs.length ≤ fs.length ∧ (∀ x ∈ xs, YOk n₀ W x) ∧ ∀ x, xs.getLast? = some x → x.m = (restF fs xs.length).length
theorem YCame.step {fs : List Lib.S59} {n₀ : Nat} {xs : List Fy} {W W' : World} (h : YCame fs n₀ xs W) (hk : ∀ (k : Nat) (cs : Array Value), W.heap[k]? = some (.cells cs 9 (0, 0)) → W'.heap[k]? = W.heap[k]?) : YCame fs n₀ xs W' :=
  ⟨h.1, h.2.1, fun x hx => own_move (h.2.2.1 x hx) (fun k hk' => by
    obtain ⟨cs, hc⟩ := own_typed (h.2.2.1 x hx) k hk'
    exact hk k cs hc), h.2.2.2⟩
theorem YCame.snoc {fs : List Lib.S59} {n₀ : Nat} {xs : List Fy} {W : World} {x : Fy} (h : YCame fs n₀ xs W) (hlt : xs.length < fs.length) (hx : x.s = fs[xs.length]) (ho : YOk n₀ W x) (hm : x.m = (restF fs (xs.length + 1)).length) : YCame fs n₀ (xs ++ [x]) W := by
  refine ⟨?_, by simp; omega, fun y hy => ?_, fun y hy => ?_⟩
  · rw [List.map_append, h.1, List.length_append, List.length_singleton, List.take_succ_eq_append_getElem hlt, ← hx]
    rfl
  · rcases List.mem_append.1 hy with hy | hy
    · exact h.2.2.1 y hy
    · rw [List.mem_singleton.1 hy]; exact ho
  · rw [List.getLast?_append] at hy
    simp at hy
    subst hy
    rw [List.length_append, List.length_singleton]
    exact hm
set_option maxRecDepth 100000 in
set_option maxHeartbeats 8000000 in
theorem facts1 {n : Nat} (hn : 3 ≤ n) {w : World} {nb bb n₀ N c : Nat} {a : Addr} {fs : List Lib.S59} (hfs : ∀ s ∈ fs, mayB s = true ∧ (-9223372036854775808 ≤ s.f2 ∧ s.f2 < 9223372036854775808)) (hN : fs.length = N) (hN16 : N ≤ 16) (hr : RdB w (some a) (restF fs 0)) (hty : ∃ cs, w.heap[a.block]? = some (.cells cs 5 (0, 0))) (hc : (restF fs 0).length ≤ c) (hl : (restF fs 0).length ≤ 100000)
    (h1 : w.heap[nb]? = some (.cells #[.int .u64 N] 86 (0, 0))) (h2 : w.heap[bb]? = some (.cells #[.slice (some a) (restF fs 0).length c] 60 (0, 0))) (hn0 : n₀ ≤ w.heap.size) :
    SeqM Fence.wide n Tryd.prog 59 #[.pointer (some ⟨nb, 0, none⟩), .pointer (some ⟨bb, 0, none⟩)] Fy.enc (Kq nb bb) (Sq bb) (fun pre x W => YCame fs n₀ (pre ++ [x]) W) (fun xs W => xs.map Fy.s = fs ∧ YCame fs n₀ xs W) w := fun l J Jx W hW hJ hJx hY h0 => by
  obtain ⟨cs0, hcs0⟩ := hty
  have hB1 := (hW.block nb (blk_lt h1)).trans h1
  have hB2 := (hW.block bb (blk_lt h2)).trans h2
  have hbk := (hW.block _ (blk_lt hcs0)).trans hcs0
  have hR0 := hr.below hW
  have hne : nb ≠ bb := fun e => by
    rw [e, h2] at h1
    simp only [Option.some.injEq, Obj.cells.injEq] at h1
    exact absurd h1.2.1 (by decide)
  have HF := Aside0.mk hfs
  have hsz := Nat.le_trans hn0 hW.size
  have hd : 1 ≤ n - 1 := by omega
  have HNE := Aside0.mk (And.intro hne (And.intro hN hN16))
  clear hr hcs0 h1 h2 hfs hW hn0 hne
  refine callsIn_of_wp Tryd.func59 rfl trivial ?_ rfl
  simp only [Tryd.ntmps59, List.size_toArray, List.length_cons, List.length_nil, Nat.reduceAdd, Nat.reduceSub, Array.replicate_succ, Array.replicate_zero, List.push_toArray, List.append_toArray, List.nil_append, List.cons_append]
  have b1 : W.cell? ⟨nb, 0, none⟩ = some (.int .u64 N) := (blk_cell hB1 0).trans rfl
  gi_wp2
  have hmx : Tryd.prog.follows .mixedOrders = true := by kernel_rfl
  gi_loopg [8] N (fun mm iv wr => ∃ (t : Nat) (xs : List Fy) (ra : Addr) (m rc : Nat), iv = .int .u64 t ∧ mm = N - t ∧ t ≤ N ∧ Aside0 (xs.length = t ∧ YCame fs n₀ xs wr) ∧ wr.heap[nb]? = some (.cells #[.int .u64 N] 86 (0, 0)) ∧ wr.heap[bb]? = some (.cells #[.slice (some ra) m rc] 60 (0, 0)) ∧
    Aside0 (RdB wr (some ra) (restF fs t) ∧ ra.block = a.block ∧ m = (restF fs t).length ∧ m ≤ rc ∧ m ≤ 100000) ∧ wr.heap[a.block]? = some (.cells cs0 5 (0, 0)) ∧ J xs wr ∧ n₀ ≤ wr.heap.size)
  case atStart => exact ⟨0, [], a, _, c, rfl, rfl, by omega, ⟨rfl, ⟨rfl, by simp, fun x hx => (by cases hx), fun x hx => (by cases hx)⟩⟩, hB1, hB2, ⟨hR0, rfl, rfl, hc, hl⟩, hbk, h0, hsz⟩
  case round =>
    obtain ⟨t, xs, ra, m, rc, rfl, rfl, hmm, HX, hB1, hB2, HR, hbk, hJs, hzs⟩ := hrel
    by_cases hlt : t < N
    · have t1 : decide (t < N) = true := decide_eq_true hlt
      have t2 : decide ((t : Int) < (N : Int)) = true := decide_eq_true (by omega)
      have b2 : wr.cell? ⟨bb, 0, none⟩ = some (.slice (some ra) m rc) := (blk_cell hB2 0).trans rfl
      have htf : t < fs.length := by rw [HNE.out.2.1]; exact hlt
      have hst := restF_step fs htf
      have hmay := HF.out _ (List.getElem_mem htf)
      have hby : Byt (restF fs (t + 1)) := byt_flat factB_byt _
      have hfc := fact_c (w := wr) hst HR.out.2.2.1 HR.out.1 hby (by rw [← HR.out.2.2.1]; exact HR.out.2.2.2.1) (by rw [← HR.out.2.2.1]; exact HR.out.2.2.2.2) hmay.1 hmay.2
      have hxl := HX.out.1
      have hfx : ∃ h : xs.length < fs.length, fs[t] = fs[xs.length] := ⟨by rw [hxl]; exact htf, by simp only [hxl]⟩
      generalize hs : fs[t] = s at *
      have hm16 : (restF fs (t + 1)).length ≤ 100000 := by
        have h9 := HR.out.2.2.1
        rw [hst, List.length_append] at h9
        have := HR.out.2.2.2.2
        omega
      have HS := Aside0.mk (And.intro hfx (And.intro hm16 (And.intro hxl htf)))
      obtain ⟨ml, hml⟩ : ∃ ml, ml = (restF fs (t + 1)).length := ⟨_, rfl⟩
      have HML := Aside0.mk hml
      unfold FactR at hfc
      rw [← hml] at hfc
      clear hst hmay hby hfx hxl hm16 hml hs
      gi_wp2_with (first
        | (refine ⟨trivial, fun _ => by omega, ?_⟩
           refine (callsIn_wide.2 hfc).mono ?_
           rintro e w2 ⟨A6, c6, a6, d6, rfl, ho6, hr6, hl6, hbl6, hb6⟩
           have hB6 := hb6.alloc hb6.size (.cells #[.slice A6 s.f0.length c6, .int .i64 s.f1, .int .i64 s.f2] 59)
           have hJ3 := hJ _ _ _ hJs (Sq.of_below hB6)
           have hX3 : YCame fs n₀ (xs ++ [⟨A6, c6, s, a6, ml, d6⟩]) (w2.alloc (.cells #[.slice A6 s.f0.length c6, .int .i64 s.f1, .int .i64 s.f2] 59)) := (HX.out.2.step (fun k cs hk => hB6.block k (blk_lt hk))).snoc HS.out.1.1 HS.out.1.2 (own_low (ho6.alloc _) hzs) (by rw [HS.out.2.2.1]; exact HML.out)
           obtain ⟨fn, tmps, assign, body, hy, hR⟩ := hY xs ⟨A6, c6, s, a6, ml, d6⟩ _ hJ3 hX3
           unfold Fy.enc at hy
           simp only at hy
           have hK6 : Kq nb bb wr (w2.alloc (.cells #[.slice A6 s.f0.length c6, .int .i64 s.f1, .int .i64 s.f2] 59)) := Kq.of_below hB6 (blk_lt hB1) (blk_lt hB2)
           have HK6 := Aside0.mk (And.intro hK6 (And.intro hr6 (And.intro hl6 (And.intro hbl6 (And.intro hB6 hX3)))))
           clear hK6 hr6 hl6 hbl6 hB6 hX3 ho6 hb6)
        | (refine ⟨fun _ => by omega, hR.mono ?_⟩
           rintro e W3 ⟨bo, rfl, hgo, hst⟩
           cases bo
           all_goals (try (
             have hg3 := hgo rfl
             have HG3 := Aside0.mk hg3
             have hB23 := ((HK6.out.1.trans hg3.2).2.2.1).trans hB2
             have c2 : W3.cell? ⟨bb, 0, none⟩ = some (.slice (some ra) m rc) := (blk_cell hB23 0).trans rfl
             have f2 : W3.frozen? ⟨bb, 0, none⟩ = false := blk_frozen hB23 0
             have HB23 := Aside0.mk hB23
             clear hg3 hB23)))
        | fail)
      · refine bodyPost_ret (results_none rfl _ _ _) rfl ?_
        exact ⟨⟨_, rfl⟩, .inr ⟨_, hst (by simp)⟩⟩
      · have hs4 : Sq bb W3 (W3.setCell ⟨bb, 0, none⟩ (.slice (some a6) ml d6)) := ⟨rfl, rfl, rfl, by simp, fun k hk hne => Below.heap_setCell _ _ _ _ (fun e => hne (by rw [show k = bb from e]))⟩
        have hJ5 := hJ _ _ _ HG3.out.1 hs4
        have hK3 := HK6.out.1.trans HG3.out.2
        have far : ∀ (k : Nat) (cs : Array Value) (e : TypeId), W3.heap[k]? = some (.cells cs e (0, 0)) → e ≠ 60 → (W3.setCell ⟨bb, 0, none⟩ (.slice (some a6) ml d6)).heap[k]? = W3.heap[k]? := fun k cs e hk he => Below.heap_setCell _ _ _ _ (fun e0 => by
          rw [show k = bb from e0, HB23.out] at hk
          simp only [Option.some.injEq, Obj.cells.injEq] at hk
          exact he hk.2.1.symm)
        have hnb3 := hK3.2.1.trans hB1
        have hbk3 := (hK3.2.2.2 _ _ _ hbk (.inl rfl)).trans hbk
        have hbk4 := (far _ _ _ hbk3 (by decide)).trans hbk3
        have hX5 : YCame fs n₀ (xs ++ [⟨A6, c6, s, a6, ml, d6⟩]) (W3.setCell ⟨bb, 0, none⟩ (.slice (some a6) ml d6)) := (HK6.out.2.2.2.2.2.step (fun k cs hk => HG3.out.2.2.2.2 k cs _ hk (.inr rfl))).step (fun k cs hk => far k cs _ hk (by decide))
        have hr9 : RdB (W3.setCell ⟨bb, 0, none⟩ (.slice (some a6) ml d6)) (some a6) (restF fs (t + 1)) := ty_rdb (W := wr) HK6.out.2.1 (fun y hy => by
          cases hy
          rw [HK6.out.2.2.2.1, HR.out.2.1, hbk4, hbk])
        gi_roundg (N - (t + 1))
        all_goals first
        | (show N - (t + 1) < N - t; omega)
        | exact ⟨t + 1, xs ++ [⟨A6, c6, s, a6, ml, d6⟩], a6, ml, d6, by push_cast; rfl, rfl, by omega, ⟨by rw [List.length_append, HX.out.1]; rfl, hX5⟩, (far _ _ _ hnb3 (by decide)).trans hnb3, blk_put HB23.out 0 _ rfl, ⟨hr9, HK6.out.2.2.2.1.trans HR.out.2.1, HML.out, HK6.out.2.2.1, by rw [HML.out]; exact HS.out.2.1⟩, hbk4, hJ5, by have := HK6.out.2.2.2.2.1.size; have := HG3.out.2.1; simp [World.size_alloc] at *; omega⟩
    · obtain rfl : t = N := by omega
      have t1 : decide (t < t) = false := decide_eq_false hlt
      have t2 : decide ((t : Int) < (t : Int)) = false := decide_eq_false (by omega)
      gi_wp2
      refine bodyPost_end (v := .tuple #[]) (by kernel_rfl) rfl ⟨⟨.tuple #[], rfl⟩, .inl ⟨xs, ⟨?_, HX.out.2⟩, hJs⟩⟩
      rw [HX.out.2.1, HX.out.1, List.take_of_length_le (by rw [HNE.out.2.1]; exact Nat.le_refl _)]
/-- A result in memory, and one that is not. -/
theorem results_row_tmp {P : Program} {fn : Func} {p u : Tmp} {ty : TypeId} (h : fn.results = #[.cell p ty, .tmp u]) (tmps : Array Value) (w : World) (g : Nat) (t : TypeId) (cs : Array Value) (fr : Nat × Nat) (d : TypeDesc)
    (hp : tmps.getD p undef = .pointer (some ⟨g, 0, none⟩)) (hg : w.heap[g]? = some (.cells cs t fr))
    (hu : P.underlying ty = some d) (hd : (match d with | .struct _ | .array _ _ => true | _ => false) = true) (hi : (P.info? ty).map (·.size) = some cs.size) :
    (results fn tmps).run P w = .ok (.tuple #[.agg cs, tmps.getD u undef]) w := by
  rw [results_cell_tmp h, hp]
  simp [asAddr, run_loadVar_row w g t ty cs fr d hg hu hd hi, Result.andThen]
/-- A record that was made: its rows are of its own. -/
structure RcOwn (n₀ : Nat) (W : World) (r : Rc) : Prop where
  own : W.ownsRow n₀ 59 3 (.slice r.R r.xs.length r.c) r.xs.length (r.xs.flatMap Fc.cells)
  dims : ∀ x ∈ r.xs, W.ownsRow n₀ 9 1 (.slice x.A x.s.f0.length x.c) x.s.f0.length (x.s.f0.map Value.string)
  a : r.xs ≠ [] → r.R = some ⟨r.b, r.o, none⟩
  vi : ∀ x ∈ r.xs, -9223372036854775808 ≤ x.s.f2 ∧ x.s.f2 < 9223372036854775808
  sz : r.xs.length ≤ 16 ∧ ∀ x ∈ r.xs, x.s.f0.length ≤ 4
theorem fc_get : ∀ (xs : List Fc) (i m : Nat) (hi : i < xs.length), m < 3 → (xs.flatMap Fc.cells)[i * 3 + m]? = xs[i].cells[m]?
  | x :: xs, 0, m, _, hm => by
    have hl : x.cells.length = 3 := rfl
    rw [List.flatMap_cons, Nat.zero_mul, Nat.zero_add, List.getElem?_append_left (by omega)]
    rfl
  | x :: xs, i + 1, m, hi, hm => by
    have hl : x.cells.length = 3 := rfl
    have hi' : i < xs.length := by simpa using hi
    rw [List.flatMap_cons, List.getElem?_append_right (by omega), hl, show (i + 1) * 3 + m - 3 = i * 3 + m by omega, fc_get xs i m hi' hm]
    rfl
theorem row_slice {W : World} {n₀ e size n : Nat} {v : Value} {xs : List Value} (h : W.ownsRow n₀ e size v n xs) : ∃ A c, v = .slice A n c ∧ ∀ i, i < xs.length → ∃ g, A = some ⟨g, 0, none⟩ ∧ g < W.heap.size ∧ W.cell? ⟨g, i, none⟩ = xs[i]? := by
  have h0 := h
  rcases h.2 with ⟨rfl, hn⟩ | ⟨g, cap, cur, rfl, hb, hg, r⟩
  · obtain rfl : n = 0 := by simpa using hn
    have : xs = [] := List.eq_nil_of_length_eq_zero (by have := h.1; omega)
    subst this
    exact ⟨none, 0, rfl, fun i hi => by simp at hi⟩
  · refine ⟨_, _, rfl, fun i hi => ⟨g, rfl, blk_lt hg, ?_⟩⟩
    obtain ⟨u, hu⟩ : ∃ u, xs[i]? = some u := ⟨_, List.getElem?_eq_getElem hi⟩
    have := h0.cells (g := g) rfl i u hu
    rw [hu, ← this]
    rcases Nat.eq_zero_or_pos i with rfl | hp
    · rfl
    · simp [Addr.add, Nat.pos_iff_ne_zero.1 hp]
/-- A record that was made can be read. -/
theorem RcOwn.rd {n₀ : Nat} {W : World} {r : Rc} (h : RcOwn n₀ W r) : r.rd W := by
  have hx : ∀ x ∈ r.xs, x.rd W := fun x hx => by
    obtain ⟨A, c, e, hr, hc⟩ := own_rds (h.dims x hx) (by have := h.sz.2 x hx; omega)
    injection e with e1 e2 e3
    exact ⟨by rw [e1]; exact hr, by rw [e3]; exact hc, h.vi x hx⟩
  have hcap : r.xs.length ≤ r.c := by
    rcases h.own.2 with ⟨e, h0⟩ | ⟨g, cap, cur, e, _, _, hc, _⟩
    · omega
    · injection e with e1 e2 e3
      omega
  refine ⟨h.a, ⟨fun j hj m u hu => ?_, hx⟩, hcap, by have := h.sz.1; omega⟩
  have hm : m < 3 := by
    have := (List.getElem?_eq_some_iff.1 hu).1
    simpa [Fc.cells] using this
  have hR := h.a (fun e => by rw [e] at hj; simp at hj)
  obtain ⟨A, c', e, hc⟩ := row_slice h.own
  injection e with e1 e2 e3
  have hl := h.own.1
  obtain ⟨g', e4, _, e5⟩ := hc (j * 3 + m) (by omega)
  rw [fc_get r.xs j m hj hm, hu] at e5
  rw [← e1, hR] at e4
  injection e4 with e4
  injection e4 with e6 e7
  rw [e6, e7, show 0 + j * 3 + m = j * 3 + m by omega]
  exact e5
theorem RcOwn.move {n₀ : Nat} {W W1 : World} {r : Rc} (h : RcOwn n₀ W r) (hk : ∀ (k : Nat) (cs : Array Value) (e : TypeId), W.heap[k]? = some (.cells cs e (0, 0)) → (e = 59 ∨ e = 9) → W1.heap[k]? = W.heap[k]?) : RcOwn n₀ W1 r :=
  ⟨own_move h.own (fun k hk' => by
    obtain ⟨cs, hc⟩ := own_typed h.own k hk'
    exact hk k cs _ hc (.inl rfl)), fun x hx => own_move (h.dims x hx) (fun k hk' => by
    obtain ⟨cs, hc⟩ := own_typed (h.dims x hx) k hk'
    exact hk k cs _ hc (.inr rfl)), h.a, h.vi, h.sz⟩
theorem RcOwn.below {n₀ : Nat} {W W1 : World} {r : Rc} (h : RcOwn n₀ W r) (hb : Below W.heap.size W W1) : RcOwn n₀ W1 r := h.move (fun k cs e hk _ => hb.block k (blk_lt hk))
theorem RcOwn.low {n₀ n₁ : Nat} {W : World} {r : Rc} (h : RcOwn n₁ W r) (hn : n₀ ≤ n₁) : RcOwn n₀ W r := ⟨own_low h.own hn, fun x hx => own_low (h.dims x hx) hn, h.a, h.vi, h.sz⟩
/-- What a record that is read gives. -/
def ReadR (l : List Lib.S59) (m : Int) (w : World) (e : Ending) (w' : World) : Prop :=
  ∃ r : Rc, e = .returned (.tuple #[r.v, .int .i64 0]) ∧ r.fs = l ∧ r.m = m ∧ RcOwn w.heap.size w' r ∧ Below w.heap.size w w'
theorem rd_at {W : World} {a : Addr} {l : List Int} (h : RdB W (some a) l) {j : Nat} (hj : j < l.length) : W.cell? (a.add j) = some (.int .u8 l[j]) := by
  have := rd_news h j (.int .u8 l[j]) (by simp [nums, hj])
  exact this
set_option maxRecDepth 100000 in
set_option maxHeartbeats 8000000 in
theorem rmark_c {w : World} {a : Addr} {c : Nat} {m : Int} (hm : 0 ≤ m ∧ m ≤ 1099511627776) (hr : RdB w (some a) (2 :: numB m)) (hc : 9 ≤ c) :
    Calls Tryd.prog 28 #[.slice (some a) 9 c] w (ReadR [] m w) := by
  have hlen : (2 :: numB m).length = 9 := by rw [List.length_cons, numB_len]
  have hx0 : ∀ W, Below w.heap.size w W → W.cell? (a.add 0) = some (.int .u8 2) := fun W hW => rd_at (hr.below hW) (j := 0) (by rw [hlen]; omega)
  have HX0 := Aside0.mk hx0
  have q1 := cut_lo a 9 c 1 (1 : Int) rfl (by omega)
  have hr1 : RdB w (some (cutA a 1 c)) (numB m) := by
    have h9 := cutA_rd (i := 1) hr (by rw [hlen]; exact hc)
    simpa using h9
  have HN : Aside0 (∀ W, Below w.heap.size w W → Calls Tryd.prog 46 #[.slice (some (cutA a 1 c)) (9 - 1) (c - 1)] W fun e w' => e = .returned (.tuple #[.int .i64 m, .int .i64 8, .int .i64 0]) ∧ Drawn0 W w') := ⟨fun W hB => readNumber_c (more := []) (by omega) (List.append_nil _).symm (by rw [numB_len]) (hr1.below hB) Byt.nil (by rw [numB_len]; omega)⟩
  have hok : ∀ W : World, Calls Tryd.prog 36 #[.agg #[.slice none 0 0, .int .i64 m]] W fun e w' => e = .returned (.bool true) ∧ Below W.heap.size W w' := fun W => by
    have h9 := right_c (w := W) (r := ⟨none, 0, 0, 0, [], m⟩) ⟨fun h => absurd rfl h, ⟨fun j hj => by simp at hj, fun x hx => by cases hx⟩, Nat.le_refl _, by simp⟩
    have hq : (⟨none, 0, 0, 0, [], m⟩ : Rc).ok = true := by
      unfold Rc.ok rightR Rc.fs
      simp [hm.1, hm.2]
    rw [hq] at h9
    exact h9
  have HOK := Aside0.mk hok
  have HM := Aside0.mk hm
  obtain ⟨W3, hW3⟩ : ∃ W3, ((w.alloc (.cells #[.slice none 0 0, .int .i64 0] 37)).alloc (.cells #[.slice none 0 0, .int .i64 0] 37)).alloc (.cells #[.bool true] 4) = W3 := ⟨_, rfl⟩
  have hb3 : Below w.heap.size w W3 := by rw [← hW3]; exact (((Below.refl _ w).alloc (Nat.le_refl _) _).alloc (by simp) _).alloc (by simp; omega) _
  have h0 : W3.heap[w.heap.size]? = some (.cells #[.slice none 0 0, .int .i64 0] 37 (0, 0)) := by rw [← hW3]; exact al_old (al_old (al_new rfl) _) _
  have h1 : W3.heap[w.heap.size + 1]? = some (.cells #[.slice none 0 0, .int .i64 0] 37 (0, 0)) := by rw [← hW3]; exact al_old (al_new (by simp)) _
  have h2 : W3.heap[w.heap.size + 2]? = some (.cells #[.bool true] 4 (0, 0)) := by rw [← hW3]; exact al_new (by simp)
  have H3 := Aside0.mk (And.intro hW3 (And.intro hb3 (And.intro h0 (And.intro h1 h2))))
  clear hm hr hc hlen hr1 hok hx0 hW3 hb3 h0 h1 h2
  have x0 : (((w.alloc (.cells #[.slice none 0 0, .int .i64 0] 37)).alloc (.cells #[.slice none 0 0, .int .i64 0] 37)).alloc (.cells #[.bool true] 4)).cell? a = some (.int .u8 2) := by
    rw [H3.out.1]
    exact HX0.out W3 H3.out.2.1
  go_enter Tryd.func28, Tryd.ntmps28
  go_wp2_with (first
    | (go_at_call 46; rw [H3.out.1]; refine (HN.out W3 H3.out.2.1).mono ?_; rintro e w4 ⟨rfl, hd⟩
       have hb4 := hd.below
       have h1 := (hb4.block _ (blk_lt H3.out.2.2.2.1)).trans H3.out.2.2.2.1
       have y1 : w4.cell? ⟨w.heap.size + 1, 1, none⟩ = some (.int .i64 0) := (blk_cell h1 1).trans rfl
       have f1 := blk_frozen h1 1
       have h2 := (hb4.block _ (blk_lt H3.out.2.2.2.2)).trans H3.out.2.2.2.2
       have h2' : (w4.setCell ⟨w.heap.size + 1, 1, none⟩ (.int .i64 m)).heap[w.heap.size + 2]? = some (.cells #[.bool true] 4 (0, 0)) := (Below.heap_setCell _ _ _ _ (by simp)).trans h2
       have y2 : (w4.setCell ⟨w.heap.size + 1, 1, none⟩ (.int .i64 m)).cell? ⟨w.heap.size + 2, 0, none⟩ = some (.bool true) := (blk_cell h2' 0).trans rfl
       have h1' := blk_put h1 1 (.int .i64 m) rfl
       have y3 : (w4.setCell ⟨w.heap.size + 1, 1, none⟩ (.int .i64 m)).cell? ⟨w.heap.size + 1, 0, none⟩ = some (.slice none 0 0) := (blk_cell h1' 0).trans rfl
       have y4 : (w4.setCell ⟨w.heap.size + 1, 1, none⟩ (.int .i64 m)).cell? ⟨w.heap.size + 1, 1, none⟩ = some (.int .i64 m) := (blk_cell h1' 1).trans rfl
       have h0' : (w4.setCell ⟨w.heap.size + 1, 1, none⟩ (.int .i64 m)).heap[w.heap.size]? = some (.cells #[.slice none 0 0, .int .i64 0] 37 (0, 0)) := (Below.heap_setCell _ _ _ _ (by simp)).trans ((hb4.block _ (blk_lt H3.out.2.2.1)).trans H3.out.2.2.1)
       have H4 := Aside0.mk (And.intro hb4 (And.intro h1' h0'))
       clear h1 h2 h2' h1' h0' hb4)
    | (go_at_call 36; refine (HOK.out _).mono ?_; rintro e w5 ⟨rfl, hb5⟩
       have h1 := (hb5.block _ (blk_lt H4.out.2.1)).trans H4.out.2.1
       have h0 := (hb5.block _ (blk_lt H4.out.2.2)).trans H4.out.2.2
       have r0 : w5.cell? ⟨w.heap.size, 0, none⟩ = some (.slice none 0 0) := (blk_cell h0 0).trans rfl
       have r1 : w5.cell? ⟨w.heap.size, 1, none⟩ = some (.int .i64 0) := (blk_cell h0 1).trans rfl
       have g0 := blk_frozen h0 0
       have g1 := blk_frozen h0 1
       have z0 : w5.cell? ⟨w.heap.size + 1, 0, none⟩ = some (.slice none 0 0) := (blk_cell h1 0).trans rfl
       have z1 : w5.cell? ⟨w.heap.size + 1, 1, none⟩ = some (.int .i64 m) := (blk_cell h1 1).trans rfl
       have H5 := Aside0.mk (And.intro hb5 h0)
       clear h0 h1 hb5)
    | fail)
  have hfin := blk_put (blk_put H5.out.2 0 (.slice none 0 0) rfl) 1 (.int .i64 m) rfl
  refine bodyPost_ret (results_row_tmp rfl _ _ w.heap.size 37 #[.slice none 0 0, .int .i64 m] (0, 0) _ rfl hfin Tryd.underlying37 rfl (by kernel_rfl)) rfl ?_
  refine ⟨⟨none, 0, 0, 0, [], m⟩, rfl, rfl, rfl, ⟨World.ownsRow_nil _ _ _ _, fun x hx => (by cases hx), fun h => absurd rfl h, fun x hx => (by cases hx), by simp, fun x hx => (by cases hx)⟩, ?_⟩
  have hb4' : Below w.heap.size w (w4.setCell ⟨w.heap.size + 1, 1, none⟩ (.int .i64 m)) := (H3.out.2.1.trans (H4.out.1.mono H3.out.2.1.size)).setCell (p := ⟨w.heap.size + 1, 1, none⟩) (by simp) _
  exact ((hb4'.trans (H5.out.1.mono hb4'.size)).setCell (p := ⟨w.heap.size, 0, none⟩) (Nat.le_refl _) _).setCell (p := ⟨w.heap.size, 1, none⟩) (Nat.le_refl _) _
end Go.Proofs.YtnmiipcoojijiaaDoor.Top
