/-
  table.Write; conditions: those that each theorem states.
-/
import Derived.Test.YthabkdbhjioalaaGN
import Derived.Test.YthabkdbhjioalaaGB
namespace Go.Proofs.Ythabkdbhjioalaa.Top
set_option linter.unusedSimpArgs false
set_option linter.unusedVariables false
open Go.RowKit Go.Shelf Go.Proofs.YthabkdbhjioalaaW.PrintWords Go.Proofs.YthabkdbhjioalaaW.PrintLast Go.Proofs.YthabkdbhjioalaaW.PrintMore Go.Proofs.Ythabkdbhjioalaa.Plain Go.Proofs.Ythabkdbhjioalaa.Fns
attribute [local go_sem] Oper.semAt_some
/-- A range over a function whose rounds each set one variable. -/
theorem range_one {F : Fence} {n : Nat} {P : Program} {α : Type} {g : Operand} {assign body : Code} {Q : Exit → Act → World → Prop} {T : Array Value} {w : World} {p : Tmp}
    (hro : F.round = none) (h1 : 1 ≤ n) {gf : Nat} {lb : Array Value} (hg : (⟨T, []⟩ : Act).eval g = .func (.func gf) #[] lb) (hFg : F.fn gf) (eg : ∀ args w, (callFunc gf args).run P w = .ok (.enter gf args) w)
    {enc : α → Value} {Kp Step : World → World → Prop} {X : List α → α → World → Prop} {S : List α → World → Prop} {w0 : World} (hseq : SeqM F (n - 1) P gf lb (fun x => #[enc x]) Kp Step X S w0)
    (hStep : ∀ {A B : World} (l : Nat) (o : Obj), Step A B → w.heap.size ≤ l → A.heap[l]? = some o → o.isCells = false → B.heap[l]? = some o)
    (hKt : ∀ {A B C : World}, Kp A B → Kp B C → Kp A C) (hKb : ∀ (W : World) (l : Nat) (o o' : Obj), w.heap.size ≤ l → W.heap[l]? = some o → o.isCells = false → o.isWalk = false → Kp W (W.putObj l o'))
    (hSb : ∀ (xs : List α) (W : World) (l : Nat) (o o' : Obj), w.heap.size ≤ l → W.heap[l]? = some o → o.isCells = false → S xs W → S xs (W.putObj l o'))
    (hb0 : Below w0.heap.size w0 w)
    (I : List α → World → Prop) (hI : ∀ pre A B, I pre A → Step A B → I pre B) (hIb : ∀ (pre : List α) (W : World) (l : Nat) (o o' : Obj), w.heap.size ≤ l → W.heap[l]? = some o → o.isCells = false → I pre W → I pre (W.putObj l o')) (hIa : ∀ (W : World) (o : Obj), I [] W → I [] (W.alloc o)) (h0 : I [] w)
    (k : Tmp) (Rw : List α → α → World → Prop) (hRp : ∀ (pre : List α) (x : α) (W : World) (l : Nat) (o o' : Obj), w.heap.size ≤ l → W.heap[l]? = some o → o.isCells = false → Rw pre x W → Rw pre x (W.putObj l o'))
    (hassign : ∀ (l : Nat) (pre : List α) (x : α) (W : World) (K : Act → World → Prop), I pre W → X pre x W → (Rw pre x W → K ⟨(T.setIfInBounds p (enc x)).setIfInBounds k (enc x), []⟩ W) →
      assign.wpIn (F.inRound l) (n - 1 - 1) P (Exit.then K (fun _ _ _ => False)) ⟨T.setIfInBounds p (enc x), []⟩ W)
    (hKr : ∀ W, Kp W W)
    (hbody : ∀ (l : Nat) (pre : List α) (x : α) (W : World), Rw pre x W → body.wpIn (F.inRound l) (n - 1 - 1) P (goesOn Kp I (fun _ _ _ => False) (pre ++ [x]) W) ⟨(T.setIfInBounds p (enc x)).setIfInBounds k (enc x), []⟩ W)
    (hdone : ∀ (D : Nat) (xs : List α) (W : World), w.heap.size ≤ D → S xs W → I xs W → W.heap[D]? = some (.deferred (some [])) → Q .normal ⟨T, [{ target := .collected D, args := #[] }]⟩ W) :
    (Code.rangeFunc g #[p] assign body).wpIn F n P Q ⟨T, []⟩ w :=
  range_mine hro h1 hg hFg eg hseq hStep hKt hKb hSb hb0 (fun _ => rfl) I hI hIb hIa h0 (fun _ _ _ => False) (fun _ _ _ _ h _ => h) (fun _ _ _ _ _ _ _ _ _ h => h)
    (fun pre x a' W => a' = ⟨(T.setIfInBounds p (enc x)).setIfInBounds k (enc x), []⟩ ∧ Rw pre x W) (fun pre x a' W l o o' hw hl ho h => ⟨h.1, hRp pre x W l o o' hw hl ho h.2⟩)
    (fun l pre x W K hI hX hK => by
      have := hassign l pre x W K hI hX fun hr => hK _ _ ⟨rfl, hr⟩ (Below.refl _ _) (hKr W)
      simpa using this) (fun l pre x a' W h => by obtain ⟨rfl, h⟩ := h; exact hbody l pre x W h) hdone (fun _ _ _ _ _ h _ => h.elim)
theorem fit_c {w : World} {L : Nat} (hL : L ≤ 4096) : Calls Try.prog 27 #[.int .i64 (L : Nat)] w fun e w' => e = .returned (.tuple #[.int .i64 ((8 * dgF L : Nat) : Int), .int .i64 6, .int .i64 0]) ∧ Below w.heap.size w w' := by
  refine Lib.bloom_Fit.calls (L : Nat) _ _ _ w ?_
  unfold Lib.bloom_Fit.f dgF
  rw [if_neg (by omega)]
  have e1 : mn (L : Int) 65536 = (L : Int) := by unfold mn; rw [if_neg (by omega)] <;> omega
  have e2 : wrap64 ((L : Int) * 10) = ((10 * L : Nat) : Int) := by unfold wrap64; omega
  have e3 : wrap64 (((10 * L : Nat) : Int) + 7) = ((10 * L + 7 : Nat) : Int) := by unfold wrap64; omega
  have e4 : Int.tdiv ((10 * L + 7 : Nat) : Int) 8 = (((10 * L + 7) / 8 : Nat) : Int) := by rw [Int.tdiv_eq_ediv_of_nonneg (by omega)]; omega
  have e5 : wrap64 (((10 * L + 7) / 8 : Nat) : Int) = (((10 * L + 7) / 8 : Nat) : Int) := by unfold wrap64; omega
  have e6 : wrap64 ((((10 * L + 7) / 8 : Nat) : Int) * 8) = ((8 * ((10 * L + 7) / 8) : Nat) : Int) := by unfold wrap64; omega
  rw [e1, e2, e3, e4, e5, e6]
  congr 2
  unfold mn mx
  split <;> split <;> omega
/-- A pair of the index: its key lies where it lay at the beginning, its value is an own row. -/
structure IPr (w W : World) (n : Nat) (p : Pr) : Prop where
  k : RdB w (some p.A) p.k
  kc : p.k.length ≤ p.c
  v : W.ownsRow n 5 1 (.slice (some p.B) p.v.length p.d) p.v.length (nums .u8 p.v)
  vc : p.v.length ≤ p.d
theorem IPr.move {w A B : World} {n : Nat} {p : Pr} (h : IPr w A n p) (hb : B.heap[p.B.block]? = A.heap[p.B.block]?) : IPr w B n p := ⟨h.k, h.kc, own_move h.v fun k hk => (by
  simp [Value.ownBlock] at hk
  rw [← hk]
  exact hb), h.vc⟩
theorem IPr.lt {w A : World} {n : Nat} {p : Pr} (h : IPr w A n p) : p.B.block < A.heap.size := by
  obtain ⟨cs, hc⟩ := own_typed h.v p.B.block rfl
  exact blk_lt hc
theorem IPr.rd {w A : World} {n : Nat} {p : Pr} (h : IPr w A n p) (hb : Below w.heap.size w A) : p.rd A := ⟨h.k.below hb, h.kc, own_read h.v, h.vc⟩
/-- What the outer loop of table.Write holds behind j parts: q is the filter's box, then come the boxes of what is written and of the index. -/
structure TwI (w : World) (q F g : Nat) (kas : Kas) (j : Nat) (W : World) : Prop where
  fl : FlAt W w.heap.size F g 6 (bloF (List.replicate (dgF kas.length) 0) ((kas.take (16 * j)).map Prod.fst))
  Fq : F < q ∧ g < q
  b8 : W.heap[q]? = some (.cells #[.pointer (some ⟨F, 0, none⟩)] 65 (0, 0))
  out : ∃ (ov iv : Value) (ps : List Pr), W.heap[q + 1]? = some (.cells #[ov] 23 (0, 0)) ∧ W.ownsRow (q + 5) 5 1 ov (allF (blksF kas j)).length (nums .u8 (allF (blksF kas j))) ∧
    W.heap[q + 2]? = some (.cells #[iv] 68 (0, 0)) ∧ W.ownsRow (q + 5) 75 2 iv ps.length (ps.flatMap Pr.cells) ∧ ps.map Pr.kv = idxF kas j ∧ ∀ p ∈ ps, IPr w W (q + 5) p ∧ ov.ownBlock ≠ some p.B.block
  below : Below w.heap.size w W
  qw : w.heap.size ≤ q
  sz : q + 5 ≤ W.heap.size
theorem TwI.move {w A B : World} {q F g : Nat} {kas : Kas} {j : Nat} (h : TwI w q F g kas j A) (hb : Below w.heap.size w B) (hs : A.heap.size ≤ B.heap.size) (hm : ∀ (k : Nat) (cs : Array Value) (e : TypeId), A.heap[k]? = some (.cells cs e (0, 0)) → B.heap[k]? = A.heap[k]?) : TwI w q F g kas j B := by
  obtain ⟨h1, h2, h3, ⟨ov, iv, ps, h4, h5, h6, h7, h8, h9⟩, h10, h11, h12⟩ := h
  exact ⟨h1.move (hm _ _ _ h1.fb) (hm _ _ _ h1.gb), h2, (hm _ _ _ h3).trans h3, ⟨ov, iv, ps, (hm _ _ _ h4).trans h4, own_move h5 fun k hk => (by obtain ⟨cs, hc⟩ := own_typed h5 k hk; exact hm _ _ _ hc), (hm _ _ _ h6).trans h6,
    own_move h7 fun k hk => (by obtain ⟨cs, hc⟩ := own_typed h7 k hk; exact hm _ _ _ hc), h8, fun p hp => ⟨(h9 p hp).1.move (by obtain ⟨cs, hc⟩ := own_typed (h9 p hp).1.v p.B.block rfl; exact hm _ _ _ hc), (h9 p hp).2⟩⟩, hb, h11, Nat.le_trans h12 hs⟩
theorem TwI.step {w A B : World} {q F g : Nat} {kas : Kas} {j : Nat} (h : TwI w q F g kas j A) (hb : Below A.heap.size A B) : TwI w q F g kas j B := h.move (h.below.trans (hb.mono h.below.size)) hb.size fun k cs e hk => hb.block k (blk_lt hk)
theorem TwI.put {w W : World} {q F g : Nat} {kas : Kas} {j : Nat} {l : Nat} {o o' : Obj} (h : TwI w q F g kas j W) (hw : w.heap.size ≤ l) (hl : W.heap[l]? = some o) (ho : o.isCells = false) : TwI w q F g kas j (W.putObj l o') :=
  h.move (h.below.grown (⟨rfl, rfl, rfl, by simp, fun k _ hk => World.putObj_heap_other (fun e => hk (by rw [e]))⟩ : W.grownBy (W.putObj l o') (some l)) h.below.size (fun k e => by cases e; exact hw)) (Nat.le_of_eq (put_size W l o').symm) fun k cs e hk => put_far hl ho hk
theorem TwI.outs {w W W' : World} {q F g : Nat} {kas : Kas} {j : Nat} (h : TwI w q F g kas j W) (hb : But g W W') :
    ∃ (ov iv : Value) (ps : List Pr), W'.heap[q + 1]? = some (.cells #[ov] 23 (0, 0)) ∧ W'.ownsRow (q + 5) 5 1 ov (allF (blksF kas j)).length (nums .u8 (allF (blksF kas j))) ∧
    W'.heap[q + 2]? = some (.cells #[iv] 68 (0, 0)) ∧ W'.ownsRow (q + 5) 75 2 iv ps.length (ps.flatMap Pr.cells) ∧ ps.map Pr.kv = idxF kas j ∧ (∀ p ∈ ps, IPr w W' (q + 5) p ∧ ov.ownBlock ≠ some p.B.block) ∧ ∀ k, iv.ownBlock = some k → k < W.heap.size := by
  obtain ⟨ov, iv, ps, h4, h5, h6, h7, h8, h9⟩ := h.out
  have hg := h.Fq.2
  have hm : ∀ (k : Nat) (cs : Array Value) (e : TypeId), W.heap[k]? = some (.cells cs e (0, 0)) → k ≠ g → W'.heap[k]? = W.heap[k]? := fun k cs e hk hne => hb.block k (blk_lt hk) (by simp; exact hne)
  refine ⟨ov, iv, ps, (hm _ _ _ h4 (by omega)).trans h4, own_move h5 fun k hk => ?_, (hm _ _ _ h6 (by omega)).trans h6, own_move h7 fun k hk => ?_, h8, fun p hp => ⟨(h9 p hp).1.move ?_, (h9 p hp).2⟩, fun k hk => by obtain ⟨cs, hc⟩ := own_typed h7 k hk; exact blk_lt hc⟩
  · obtain ⟨cs, hc⟩ := own_typed h5 k hk
    have := (h5.lt k hk).1
    exact hm _ _ _ hc (by omega)
  · obtain ⟨cs, hc⟩ := own_typed h7 k hk
    have := (h7.lt k hk).1
    exact hm _ _ _ hc (by omega)
  · obtain ⟨cs, hc⟩ := own_typed (h9 p hp).1.v p.B.block rfl
    have := ((h9 p hp).1.v.lt p.B.block rfl).1
    exact hm _ _ _ hc (by omega)
theorem pflat_get : ∀ (xs : List Pr) (i m : Nat) (hi : i < xs.length), m < 2 → (xs.flatMap Pr.cells)[i * 2 + m]? = xs[i].cells[m]?
  | x :: xs, 0, m, _, hm => by
    have hl : x.cells.length = 2 := rfl
    rw [List.flatMap_cons, Nat.zero_mul, Nat.zero_add, List.getElem?_append_left (by omega)]
    rfl
  | x :: xs, i + 1, m, hi, hm => by
    have hl : x.cells.length = 2 := rfl
    have hi' : i < xs.length := by simpa using hi
    rw [List.flatMap_cons, List.getElem?_append_right (by omega), hl, show (i + 1) * 2 + m - 2 = i * 2 + m by omega, pflat_get xs i m hi' hm]
    rfl
/-- A pair is put behind an own row of pairs. -/
theorem run_append_pair {w : World} {B : Nat} {v : Value} {xs : List Pr} (x : Pr) (ty : TypeId) (hown : w.ownsRow B 75 2 v xs.length (xs.flatMap Pr.cells)) (hl : xs.length ≤ 100000) (hB : B ≤ w.heap.size) :
    ∃ g cap w', (Builtin.append_ #[68, 68] ty #[v, .slice (some ⟨w.heap.size, 0, none⟩) 1 1]).run Try.prog (w.alloc (.cells #[.slice (some x.A) x.k.length x.c, .slice (some x.B) x.v.length x.d] 75)) = .ok (.slice (some ⟨g, 0, none⟩) (xs.length + 1) cap) w' ∧
      w'.ownsRow B 75 2 (.slice (some ⟨g, 0, none⟩) (xs.length + 1) cap) (xs ++ [x]).length ((xs ++ [x]).flatMap Pr.cells) ∧ (w.alloc (.cells #[.slice (some x.A) x.k.length x.c, .slice (some x.B) x.v.length x.d] 75)).grownBy w' v.ownBlock := by
  obtain ⟨i0, hi, hzz⟩ := Option.map_eq_some_iff.1 info_pr
  simp only [Prod.mk.injEq] at hzz
  obtain ⟨hz0, hz1, hz2⟩ := hzz
  obtain ⟨v', w', h1, h2, h3, _, _⟩ := run_append_own_at (P := Try.prog) (w.alloc (.cells #[.slice (some x.A) x.k.length x.c, .slice (some x.B) x.v.length x.d] 75)) B 68 ty 75 i0 _ 2 48 Try.underlying68 hi hz0 hz1 hz2 rfl (by decide) v xs.length _ (hown.alloc _) ⟨w.heap.size, 0, none⟩ 1 1 x.cells rfl (pcells_new w x) (pcells_one x) (by simp only [maxLen]; omega) (by omega) (by simp [World.size_alloc]; omega)
  obtain ⟨g', cap', cur', rfl, _⟩ := own_some h2 (by omega)
  exact ⟨g', cap', w', h1, by rw [List.length_append, List.flatMap_append]; simpa using h2, h3⟩
/-- An append whose run is known, as a step of a region that draws. -/
theorem step_append_run {ops : Array Oper} {o : Oper} {a : Act} {w : World} {K : Act → World → Prop} {Q : Exit → Act → World → Prop} {E : Prop} {T : TypeId} (hgd : o.guard = none) (s x : Operand)
    (ho : o.op = .call { callee := .builtin .append, args := #[s, x], argTypes := #[T, T] }) {v u v' : Value} {w' : World} (hs : a.eval s = v) (hx : a.eval x = u)
    (hr : (Builtin.append_ #[T, T] o.type #[v, u]).run Try.prog w = .ok v' w') (h : K (a.put o.dst v') w') : if Region.wanted o (yielded ops a.tmps) = true then Oper.wp Try.prog o a w K Q else E := by
  have hw : Region.wanted o (yielded ops a.tmps) = true := by simp [Region.wanted, hgd]
  rw [if_pos hw]
  unfold Oper.wp execOp
  simp only [ho, resolve, invoke, builtin, Sem.run_bind, Sem.run_pure, Result.andThen_ok, List.map_toArray, List.map_cons, List.map_nil, hs, hx, hr]
  exact h
theorem ko_below {A B : World} (h : Below A.heap.size A B) : KeepsOthers A B := ⟨h.size, fun k o hk _ => (h.block k (Array.getElem?_eq_some_iff.1 hk).1).trans hk⟩
theorem ko_own {w w' : World} {base n sz : Nat} {e : TypeId} {v : Value} {xs : List Value} (hown : w.ownsRow base e sz v n xs) (hg : w.grownBy w' v.ownBlock) : KeepsOthers w w' := KeepsOthers.of_grownBy hg fun j o hj ho => by
  obtain ⟨cs, hc⟩ := own_typed hown j hj
  rw [hc] at ho
  cases ho
  rfl
theorem box_agrown {W W3 : World} {o : Obj} {base b n sz : Nat} {cs : Array Value} {t e : TypeId} {v : Value} {xs : List Value} (h : W.heap[b]? = some (.cells cs t (0, 0))) (hown : W.ownsRow base e sz v n xs) (hg : (W.alloc o).grownBy W3 v.ownBlock) (hne : t ≠ e := by decide) : W3.heap[b]? = some (.cells cs t (0, 0)) := by
  refine (hg.block b (by simp [World.size_alloc]; have := blk_lt h; omega) (fun hb => ?_)).trans (al_old h _)
  obtain ⟨cs, hc⟩ := own_typed hown b hb.symm
  rw [h] at hc
  simp only [Option.some.injEq, Obj.cells.injEq] at hc
  exact hne hc.2.1
theorem But.grow {g n sz : Nat} {W w6 w7 : World} {o : Obj} {e : TypeId} {v : Value} {xs : List Value} (h : But g W w6) (hown : w6.ownsRow W.heap.size e sz v n xs) (hg : (w6.alloc o).grownBy w7 v.ownBlock) : But g W w7 := by
  have hs := hg.size
  rw [World.size_alloc] at hs
  refine ⟨hg.os.trans h.os, hg.tape.trans h.tape, hg.output.trans h.output, by have := h.size; omega, fun b hb hne => ?_⟩
  refine (hg.block b (by have := h.size; simp [World.size_alloc]; omega) (fun e' => ?_)).trans ((Below.heap_alloc _ _ _ (by have := h.size; omega)).trans (h.block b hb hne))
  have := (hown.lt b e'.symm).1
  omega
/-- How it stands when the index has its pair for part j, and the part's row is still to be written. -/
structure TwM (w W : World) (q F g rb : Nat) (kas : Kas) (j ol : Nat) (oA : Option Addr) (oc : Nat) (prs ps : List Pr) (iv : Value) (W7 : World) : Prop where
  ob : W7.heap[q + 1]? = some (.cells #[.slice oA ol oc] 23 (0, 0))
  ib : W7.heap[q + 2]? = some (.cells #[iv] 68 (0, 0))
  row : PRow W7 (some ⟨rb, 0, none⟩) prs
  idx : W7.ownsRow (q + 5) 75 2 iv ps.length (ps.flatMap Pr.cells)
  out : W7.ownsRow (q + 5) 5 1 (.slice oA ol oc) ol (nums .u8 (allF (blksF kas j)))
  val : ∀ p ∈ ps, IPr w W7 (q + 5) p ∧ (Value.slice oA ol oc).ownBlock ≠ some p.B.block
  fl : FlAt W7 w.heap.size F g 6 (bloF (bloF (List.replicate (dgF kas.length) 0) ((kas.take (16 * j)).map Prod.fst)) ((prtF kas j).map Prod.fst))
  b8 : W7.heap[q]? = some (.cells #[.pointer (some ⟨F, 0, none⟩)] 65 (0, 0))
  kc : Kc W W7
  ko : KeepsOthers W W7
  kv : ps.map Pr.kv = idxF kas (j + 1)
  below : Below w.heap.size w W7
  sz : q + 5 ≤ W7.heap.size
  qw : w.heap.size ≤ q
  Fq : F < q ∧ g < q
theorem TwM.close {w W W7 w8 w9 : World} {q F g rb : Nat} {kas : Kas} {j ol oc : Nat} {oA : Option Addr} {prs ps : List Pr} {iv v9 : Value} (h : TwM w W q F g rb kas j ol oA oc prs ps iv W7) (hb8 : Below W7.heap.size W7 w8)
    (ho9 : w9.ownsRow (q + 5) 5 1 v9 (allF (blksF kas j) ++ frameF (blkF kas j)).length (nums .u8 (allF (blksF kas j) ++ frameF (blkF kas j)))) (hg9 : w8.grownBy w9 (Value.slice oA ol oc).ownBlock)
    (hat9 : ∀ k, v9.ownBlock = some k → (Value.slice oA ol oc).ownBlock = some k ∨ w8.heap.size ≤ k) : KeepsOthers W (w9.setCell ⟨q + 1, 0, none⟩ v9) ∧ Kc W (w9.setCell ⟨q + 1, 0, none⟩ v9) ∧ TwI w q F g kas (j + 1) (w9.setCell ⟨q + 1, 0, none⟩ v9) := by
  have ho8 := own_below h.out hb8
  have hs78 := hb8.size
  have hs89 := hg9.size
  have hun : ∀ (kk : Nat) (cs : Array Value) (e : TypeId), W7.heap[kk]? = some (.cells cs e (0, 0)) → kk ≠ q + 1 → (Value.slice oA ol oc).ownBlock ≠ some kk → (w9.setCell ⟨q + 1, 0, none⟩ v9).heap[kk]? = W7.heap[kk]? := fun kk cs e hk hne hni =>
    (Below.heap_setCell _ _ _ _ hne).trans ((hg9.block kk (by have := blk_lt hk; omega) (fun e => hni e.symm)).trans (hb8.block kk (blk_lt hk)))
  have hot : ∀ (kk : Nat) (cs : Array Value) (e : TypeId), W7.heap[kk]? = some (.cells cs e (0, 0)) → e ≠ 5 → (Value.slice oA ol oc).ownBlock ≠ some kk := fun kk cs e hk he hi' => by
    obtain ⟨cs', hc⟩ := own_typed h.out kk hi'
    rw [hk] at hc
    simp only [Option.some.injEq, Obj.cells.injEq] at hc
    exact he hc.2.1
  have hob9 : w9.heap[q + 1]? = some (.cells #[.slice oA ol oc] 23 (0, 0)) := (hg9.block _ (by have := blk_lt h.ob; omega) (fun e => hot _ _ _ h.ob (by decide) e.symm)).trans ((hb8.block _ (blk_lt h.ob)).trans h.ob)
  have hgo : (Value.slice oA ol oc).ownBlock ≠ some g := fun e => by have := (h.out.lt g e).1; have := h.Fq; omega
  have hsz : W7.heap.size ≤ (w9.setCell ⟨q + 1, 0, none⟩ v9).heap.size := by simp [World.setCell]; omega
  refine ⟨⟨Nat.le_trans h.ko.size hsz, fun kk o hk ho => ?_⟩, ⟨Nat.le_trans h.kc.1 hsz, fun kk cs e hk he => ?_⟩, ?_⟩
  · have h7 := h.ko.same kk o hk ho
    have hne : kk ≠ q + 1 := fun e' => by subst e'; rw [h.ob] at h7; cases h7; cases ho
    have hni : (Value.slice oA ol oc).ownBlock ≠ some kk := fun e' => by obtain ⟨cs', hc'⟩ := own_typed h.out kk e'; rw [hc'] at h7; cases h7; cases ho
    have hlt7 := (Array.getElem?_eq_some_iff.1 h7).1
    exact (Below.heap_setCell _ _ _ _ hne).trans ((hg9.block kk (by omega) (fun e => hni e.symm)).trans ((hb8.block kk hlt7).trans h7))
  · have h7 := h.kc.2 kk cs e hk he
    have hk7 := h7.trans hk
    have hne : kk ≠ q + 1 := fun e' => by subst e'; rw [h.ob] at hk7; simp at hk7; rcases he with rfl | rfl <;> exact absurd hk7.2 (by decide)
    exact (hun kk cs e hk7 hne (hot kk cs e hk7 (by rcases he with rfl | rfl <;> decide))).trans h7
  · have hfb := hun _ _ _ h.fl.fb (by have := h.Fq; omega) (hot _ _ _ h.fl.fb (by decide))
    have hgb := hun _ _ _ h.fl.gb (by have := h.Fq; omega) hgo
    refine ⟨?_, h.Fq, (hun _ _ _ h.b8 (by omega) (hot _ _ _ h.b8 (by decide))).trans h.b8, ⟨v9, iv, ps, blk_put hob9 0 _ rfl, ?_, (hun _ _ _ h.ib (by omega) (hot _ _ _ h.ib (by decide))).trans h.ib, own_move h.idx fun kk hk => ?_, h.kv, fun p hp => ⟨(h.val p hp).1.move ?_, fun e => ?_⟩⟩, ?_, h.qw, Nat.le_trans h.sz hsz⟩
    · rw [prt_take, List.map_append, bloF_app]
      exact h.fl.move hfb hgb
    · rw [blksF_succ, allF_snoc]
      exact own_set hob9 ho9
    · obtain ⟨cs, hc⟩ := own_typed h.idx kk hk
      exact hun _ _ _ hc (by have := (h.idx.lt kk hk).1; omega) (hot _ _ _ hc (by decide))
    · obtain ⟨cs, hc⟩ := own_typed (h.val p hp).1.v p.B.block rfl
      exact hun _ _ _ hc (by have := ((h.val p hp).1.v.lt p.B.block rfl).1; omega) (h.val p hp).2
    · rcases hat9 _ e with h1 | h1
      · exact (h.val p hp).2 h1
      · obtain ⟨cs, hc⟩ := own_typed (h.val p hp).1.v p.B.block rfl
        have := blk_lt hc
        omega
    · exact ((h.below.trans (hb8.mono h.below.size)).grown hg9 (by have := h.below.size; omega) (fun k hk => by have := (ho8.lt k hk).1; have := h.qw; omega)).setCell (p := ⟨q + 1, 0, none⟩) (by have := h.qw; simp; omega) _
theorem prow_cells {W : World} {base rb n c : Nat} {ps : List Pr} (h : W.ownsRow base 75 2 (.slice (some ⟨rb, 0, none⟩) n c) ps.length (ps.flatMap Pr.cells)) : ∀ j (hj : j < ps.length), W.cell? ⟨rb, j * 2, none⟩ = some (.slice (some ps[j].A) ps[j].k.length ps[j].c) ∧ W.cell? ⟨rb, j * 2 + 1, none⟩ = some (.slice (some ps[j].B) ps[j].v.length ps[j].d) := fun j hj => by
  obtain ⟨A, c', e, hrow⟩ := row_slice h
  cases e
  have hl := h.1
  have one : ∀ m, m < 2 → W.cell? ⟨rb, j * 2 + m, none⟩ = ps[j].cells[m]? := fun m hm => by
    obtain ⟨g', e1, _, e2⟩ := hrow (j * 2 + m) (by omega)
    rw [pflat_get ps j m hj hm] at e2
    simp only [Option.some.injEq, Addr.mk.injEq] at e1
    rw [← e1.1] at e2
    exact e2
  exact ⟨one 0 (by omega), one 1 (by omega)⟩
theorem tw_mid {w W wr w5 w6 : World} {q F g rb rc : Nat} {kas : Kas} {j ol oc : Nat} {oA : Option Addr} {prs ps : List Pr} {iv : Value} {lA E5 : Addr} {lk : List Int} {lc e5 g6 k6 : Nat}
    (HI : TwI w q F g kas j W) (HB : But g W wr) (hBw : Below w.heap.size w wr) (hb8 : wr.heap[q]? = some (.cells #[.pointer (some ⟨F, 0, none⟩)] 65 (0, 0)))
    (HF : FlAt wr w.heap.size F g 6 (bloF (bloF (List.replicate (dgF kas.length) 0) ((kas.take (16 * j)).map Prod.fst)) ((prtF kas j).map Prod.fst)))
    (HR : wr.ownsRow W.heap.size 75 2 (.slice (some ⟨rb, 0, none⟩) prs.length rc) prs.length (prs.flatMap Pr.cells)) (HIP : ∀ p ∈ prs, IPr w wr W.heap.size p)
    (H1 : wr.heap[q + 1]? = some (.cells #[.slice oA ol oc] 23 (0, 0))) (H2 : wr.ownsRow (q + 5) 5 1 (.slice oA ol oc) ol (nums .u8 (allF (blksF kas j)))) (H3 : wr.heap[q + 2]? = some (.cells #[iv] 68 (0, 0)))
    (H4 : wr.ownsRow (q + 5) 75 2 iv ps.length (ps.flatMap Pr.cells)) (H5 : ps.map Pr.kv = idxF kas j) (H6 : ∀ p ∈ ps, IPr w wr (q + 5) p ∧ (Value.slice oA ol oc).ownBlock ≠ some p.B.block) (HNE : iv.ownBlock ≠ some rb)
    (hb5 : Below wr.heap.size wr w5) (ho5 : w5.ownsRow wr.heap.size 5 1 (.slice (some E5) (numb ol 8).length e5) (numb ol 8).length (nums .u8 (numb ol 8))) (he5 : (numb ol 8).length ≤ e5)
    (HLRK : RdB w (some lA) lk) (hlrc : lk.length ≤ lc) (HLK : lk = keyF kas j) (HOL : (allF (blksF kas j)).length = ol)
    (ho6 : w6.ownsRow (q + 5) 75 2 (.slice (some ⟨g6, 0, none⟩) (ps.length + 1) k6) (ps ++ [(⟨lA, lk, lc, E5, numb ol 8, e5⟩ : Pr)]).length ((ps ++ [(⟨lA, lk, lc, E5, numb ol 8, e5⟩ : Pr)]).flatMap Pr.cells))
    (hg6 : (w5.alloc (.cells #[.slice (some lA) lk.length lc, .slice (some E5) (numb ol 8).length e5] 75)).grownBy w6 iv.ownBlock) :
    TwM w W q F g rb kas j ol oA oc prs (ps ++ [(⟨lA, lk, lc, E5, numb ol 8, e5⟩ : Pr)]) (.slice (some ⟨g6, 0, none⟩) (ps.length + 1) k6) (w6.setCell ⟨q + 2, 0, none⟩ (.slice (some ⟨g6, 0, none⟩) (ps.length + 1) k6)) := by
  have hbS : q + 5 ≤ wr.heap.size := by have := HB.size; have := HI.sz; omega
  have hib6 := box_agrown ((hb5.block _ (blk_lt H3)).trans H3) (own_below H4 hb5) hg6
  have hob6 := box_agrown ((hb5.block _ (blk_lt H1)).trans H1) (own_below H4 hb5) hg6
  have hib7 := blk_put hib6 0 (.slice (some ⟨g6, 0, none⟩) (ps.length + 1) k6) rfl
  have hob7 : (w6.setCell ⟨q + 2, 0, none⟩ (.slice (some ⟨g6, 0, none⟩) (ps.length + 1) k6)).heap[q + 1]? = some (.cells #[.slice oA ol oc] 23 (0, 0)) := (Below.heap_setCell _ _ _ _ (by simp)).trans hob6
  have hun7 : ∀ (kk : Nat) (cs : Array Value) (e : TypeId), wr.heap[kk]? = some (.cells cs e (0, 0)) → kk ≠ q + 2 → iv.ownBlock ≠ some kk → (w6.setCell ⟨q + 2, 0, none⟩ (.slice (some ⟨g6, 0, none⟩) (ps.length + 1) k6)).heap[kk]? = wr.heap[kk]? := fun kk cs e hk hne hni => (Below.heap_setCell _ _ _ _ hne).trans ((hg6.block kk (by have := hb5.size; have := blk_lt hk; simp [World.size_alloc]; omega) (fun e => hni e.symm)).trans ((Below.heap_alloc _ _ _ (by have := hb5.size; have := blk_lt hk; omega)).trans (hb5.block kk (blk_lt hk))))
  have hBw5 : Below w.heap.size w w5 := hBw.trans (hb5.mono hBw.size)
  have hBw7 : Below w.heap.size w (w6.setCell ⟨q + 2, 0, none⟩ (.slice (some ⟨g6, 0, none⟩) (ps.length + 1) k6)) := ((hBw5.alloc hBw5.size _).grown hg6 (by have := hBw5.size; simp [World.size_alloc]; omega) (fun k hk => by have := ((own_below H4 hb5).lt k hk).1; have := HI.qw; omega)).setCell (p := ⟨q + 2, 0, none⟩) (by have := HI.qw; simp; omega) _
  have hs7 : w5.heap.size < (w6.setCell ⟨q + 2, 0, none⟩ (.slice (some ⟨g6, 0, none⟩) (ps.length + 1) k6)).heap.size := by have := hg6.size; simp [World.size_alloc] at this ⊢; omega
  have hivt : ∀ (kk : Nat) (cs : Array Value) (e : TypeId), wr.heap[kk]? = some (.cells cs e (0, 0)) → e ≠ 75 → iv.ownBlock ≠ some kk := fun kk cs e hk he hi' => by
    obtain ⟨cs', hc⟩ := own_typed H4 kk hi'
    rw [hk] at hc
    simp only [Option.some.injEq, Obj.cells.injEq] at hc
    exact he hc.2.1
  have hp7 : ∀ (n' : Nat) (p : Pr), IPr w wr n' p → p.B.block ≠ q + 2 → IPr w (w6.setCell ⟨q + 2, 0, none⟩ (.slice (some ⟨g6, 0, none⟩) (ps.length + 1) k6)) n' p := fun n' p hp hne => hp.move (by
    obtain ⟨cs, hc⟩ := own_typed hp.v p.B.block rfl
    exact hun7 _ _ _ hc hne (hivt _ _ _ hc (by decide)))
  have hrow7 : PRow (w6.setCell ⟨q + 2, 0, none⟩ (.slice (some ⟨g6, 0, none⟩) (ps.length + 1) k6)) (some ⟨rb, 0, none⟩) prs := by
    obtain ⟨rcs, hrcs⟩ := own_typed HR rb rfl
    have hsame := hun7 rb _ _ hrcs (by have := (HR.lt rb rfl).1; have := HI.sz; omega) HNE
    have hc := prow_cells HR
    refine PRow.mk (fun jj hjj => ?_) (fun p hp => (hp7 _ p (HIP p hp) (fun e => by have := ((HIP p hp).v.lt p.B.block rfl).1; have := HI.sz; omega)).rd hBw7)
    exact ⟨rb, rfl, (World.cell?_of_block (w := wr) hsame).trans (hc jj hjj).1, (World.cell?_of_block (w := wr) hsame).trans (hc jj hjj).2⟩
  have hidx7 : (w6.setCell ⟨q + 2, 0, none⟩ (.slice (some ⟨g6, 0, none⟩) (ps.length + 1) k6)).ownsRow (q + 5) 75 2 (.slice (some ⟨g6, 0, none⟩) (ps.length + 1) k6) (ps ++ [(⟨lA, lk, lc, E5, numb ol 8, e5⟩ : Pr)]).length ((ps ++ [(⟨lA, lk, lc, E5, numb ol 8, e5⟩ : Pr)]).flatMap Pr.cells) := own_set hib6 ho6
  have hout7 : (w6.setCell ⟨q + 2, 0, none⟩ (.slice (some ⟨g6, 0, none⟩) (ps.length + 1) k6)).ownsRow (q + 5) 5 1 (.slice oA ol oc) ol (nums .u8 (allF (blksF kas j))) := own_move H2 fun kk hk => (by
    obtain ⟨cs, hc⟩ := own_typed H2 kk hk
    exact hun7 _ _ _ hc (fun e => by have := (H2.lt kk hk).1; omega) (hivt _ _ _ hc (by decide)))
  have hval7 : ∀ p ∈ ps ++ [(⟨lA, lk, lc, E5, numb ol 8, e5⟩ : Pr)], IPr w (w6.setCell ⟨q + 2, 0, none⟩ (.slice (some ⟨g6, 0, none⟩) (ps.length + 1) k6)) (q + 5) p ∧ (Value.slice oA ol oc).ownBlock ≠ some p.B.block := fun p hp => by
    rcases List.mem_append.1 hp with hp | hp
    · exact ⟨hp7 _ p (H6 p hp).1 (fun e => by have := ((H6 p hp).1.v.lt p.B.block rfl).1; omega), (H6 p hp).2⟩
    · obtain rfl := List.mem_singleton.1 hp
      have hE := (ho5.lt E5.block rfl)
      have hge : wr.heap.size ≤ E5.block := hE.1
      refine ⟨⟨HLRK, hlrc, own_low (own_move ho5 fun kk hk => ?_) hbS, he5⟩, fun e => ?_⟩
      · obtain ⟨cs, hc⟩ := own_typed ho5 kk hk
        have hkE := (ho5.lt kk hk).1
        refine (Below.heap_setCell _ _ _ _ (by simp only; omega)).trans ((hg6.block kk (by have := blk_lt hc; simp [World.size_alloc]; omega) (fun e => ?_)).trans (Below.heap_alloc _ _ _ (blk_lt hc)))
        obtain ⟨cs', hc'⟩ := own_typed H4 kk e.symm
        have := blk_lt hc'
        omega
      · obtain ⟨cs', hc'⟩ := own_typed H2 _ e
        have := blk_lt hc'
        simp only at this
        omega
  have hfl7 : FlAt (w6.setCell ⟨q + 2, 0, none⟩ (.slice (some ⟨g6, 0, none⟩) (ps.length + 1) k6)) w.heap.size F g 6 (bloF (bloF (List.replicate (dgF kas.length) 0) ((kas.take (16 * j)).map Prod.fst)) ((prtF kas j).map Prod.fst)) := HF.move (hun7 _ _ _ HF.fb (by have := HI.Fq; omega) (hivt _ _ _ HF.fb (by decide))) (hun7 _ _ _ HF.gb (by have := HI.Fq; omega) (hivt _ _ _ HF.gb (by decide)))
  have hb87 := (hun7 _ _ _ hb8 (by omega) (hivt _ _ _ hb8 (by decide))).trans hb8
  have hkc7 : Kc W (w6.setCell ⟨q + 2, 0, none⟩ (.slice (some ⟨g6, 0, none⟩) (ps.length + 1) k6)) := ⟨by have := HB.size; have := hb5.size; omega, fun kk cs e hk he => by
    have hgb := HI.fl.gb
    have hib := HI
    have hne1 : kk ≠ g := fun e' => by subst e'; rw [hgb] at hk; simp at hk; rcases he with rfl | rfl <;> (exact absurd hk.2 (by decide))
    have hwr : wr.heap[kk]? = W.heap[kk]? := HB.block kk (blk_lt hk) (by simp; exact hne1)
    have hne2 : kk ≠ q + 2 := fun e' => by subst e'; rw [← hwr, H3] at hk; simp at hk; rcases he with rfl | rfl <;> (exact absurd hk.2 (by decide))
    exact (hun7 kk cs e (hwr.trans hk) hne2 (hivt kk cs e (hwr.trans hk) (by rcases he with rfl | rfl <;> decide))).trans hwr⟩
  have hko7 : KeepsOthers W (w6.setCell ⟨q + 2, 0, none⟩ (.slice (some ⟨g6, 0, none⟩) (ps.length + 1) k6)) := ⟨by have := HB.size; have := hb5.size; omega, fun kk o hk ho => by
    have hne1 : kk ≠ g := fun e' => by subst e'; rw [HI.fl.gb] at hk; cases hk; cases ho
    have hwr : wr.heap[kk]? = some o := (HB.block kk (Array.getElem?_eq_some_iff.1 hk).1 (by simp; exact hne1)).trans hk
    have hne2 : kk ≠ q + 2 := fun e' => by subst e'; rw [H3] at hwr; cases hwr; cases ho
    have hni : iv.ownBlock ≠ some kk := fun e' => by obtain ⟨cs', hc'⟩ := own_typed H4 kk e'; rw [hc'] at hwr; cases hwr; cases ho
    have hlt' := (Array.getElem?_eq_some_iff.1 hwr).1
    exact (Below.heap_setCell _ _ _ _ hne2).trans ((hg6.block kk (by have := hb5.size; simp [World.size_alloc]; omega) (fun e => hni e.symm)).trans ((Below.heap_alloc _ _ _ (by have := hb5.size; omega)).trans ((hb5.block kk hlt').trans hwr)))⟩
  have hkv7 : (ps ++ [(⟨lA, lk, lc, E5, numb ol 8, e5⟩ : Pr)]).map Pr.kv = idxF kas (j + 1) := by rw [List.map_append, H5, idxF_succ, HOL]; simp [Pr.kv, HLK]
  exact ⟨hob7, hib7, hrow7, hidx7, hout7, hval7, hfl7, hb87, hkc7, hko7, hkv7, hBw7, by have := hb5.size; omega, HI.qw, HI.Fq⟩
set_option maxRecDepth 100000 in
set_option maxHeartbeats 16000000 in
theorem twrite_c {w : World} {R : Option Addr} {c b : Nat} {es : List Ent} {kas : Kas} (hR : es ≠ [] → R = some ⟨b, 0, none⟩) (h : ERow w b 0 es) (hc : es.length ≤ c) (hka : es.map Ent.ka = kas) (hok : EOk kas) (hn : es.length ≤ 80) :
    Calls Try.prog 9 #[.slice R es.length c] w fun e w' => ∃ v, e = .returned (.tuple #[v, .int .i64 0]) ∧ w'.ownsRow w.heap.size 5 1 v (tableF kas).length (nums .u8 (tableF kas)) ∧ Below w.heap.size w w' := by
  refine (callsIn_wide (n := 6)).1 ?_
  have hL : kas.length = es.length := by rw [← hka]; simp
  have H := Aside0.mk h
  have HOK := Aside0.mk hok
  have HKA := Aside0.mk hka
  have HL := Aside0.mk hL
  have HRR := Aside0.mk hR
  have htr := tright_c (c := c) hR h (by rw [hka]; exact hok)
  have hd1 : 1 ≤ dgF kas.length := by unfold dgF; omega
  have hd2 : dgF kas.length ≤ 8192 := by unfold dgF; omega
  rw [← hL] at htr ⊢
  have hn' : kas.length ≤ 80 := by rw [hL]; exact hn
  have hc' : kas.length ≤ c := by rw [hL]; exact hc
  clear h hok hka hL hR hn hc
  refine callsIn_of_wp_marks Try.func9 rfl trivial ?_ rfl
  simp only [Try.ntmps9, List.size_toArray, List.length_cons, List.length_nil, Nat.reduceAdd, Nat.reduceSub, Array.replicate_succ, Array.replicate_zero, List.push_toArray, List.append_toArray, List.nil_append, List.cons_append]
  have hmx : Try.prog.follows .mixedOrders = true := by kernel_rfl
  gi_wp2_with (first
    | (refine ⟨trivial, ?_⟩; gi_at_call 26; refine (callsIn_wide.2 htr).mono ?_; rintro e w1 ⟨rfl, hb1⟩)
    | (refine ⟨trivial, ?_⟩; gi_at_call 27; refine (callsIn_wide.2 (fit_c (w := w1) (L := kas.length) (by omega))).mono ?_; rintro e w2 ⟨rfl, hb2⟩)
    | (refine ⟨trivial, ?_⟩; gi_at_call 28; refine (callsIn_wide.2 (bloom_new (w := w2) (dgF kas.length) 6 hd1 hd2 (by omega) (by omega))).mono ?_; rintro e w3 ⟨F, g, rfl, hfl, hb3⟩)
    | (refine ⟨trivial, ?_⟩; gi_at_call 29; refine (callsIn_wide.2 (chunk_c _ _ _ _)).mono ?_; rintro e w4 ⟨rfl, rfl⟩)
    | fail)
  have hb13 : Below w.heap.size w w3 := (hb1.trans (hb2.mono hb1.size)).trans (hb3.mono (Nat.le_trans hb1.size hb2.size))
  have hFq : F < w3.heap.size ∧ g < w3.heap.size := ⟨blk_lt hfl.fb, blk_lt hfl.gb⟩
  have hfl' : FlAt w3 w.heap.size F g 6 (List.replicate (dgF kas.length) 0) := ⟨hfl.fb, hfl.gb, Nat.le_trans (Nat.le_trans hb1.size hb2.size) hfl.Fb, Nat.le_trans (Nat.le_trans hb1.size hb2.size) hfl.gB⟩
  have hqw := hb13.size
  clear htr hb1 hb2 hb3 hfl hd1 hd2
  obtain ⟨W0, hW0⟩ : ∃ W0, ((((w3.alloc (.cells #[.pointer (some ⟨F, 0, none⟩)] 65)).alloc (.cells #[.slice none 0 0] 23)).alloc (.cells #[.slice none 0 0] 68)).alloc (.cells #[.slice R kas.length c] 22)).alloc (.cells #[.int .i64 16] 3) = W0 := ⟨_, rfl⟩
  obtain ⟨q, hq⟩ : ∃ q, w3.heap.size = q := ⟨_, rfl⟩
  have hB30 : Below w3.heap.size w3 W0 := by
    rw [← hW0]
    exact (((((Below.refl _ w3).alloc (Nat.le_refl _) _).alloc (by simp) _).alloc (by simp; omega) _).alloc (by simp; omega) _).alloc (by simp; omega) _
  have hB0 : Below w.heap.size w W0 := hb13.trans (hB30.mono hqw)
  have hs0 : W0.heap.size = q + 5 := by rw [← hW0, ← hq]; simp
  have hI0 : TwI w q F g kas 0 W0 := by
    refine ⟨(hfl'.below hB30), by rw [← hq]; exact hFq, ?_, ⟨.slice none 0 0, .slice none 0 0, [], ?_, World.ownsRow_nil _ _ _ _, ?_, World.ownsRow_nil _ _ _ _, rfl, fun p hp => by cases hp⟩, hB0, by rw [← hq]; exact hqw, by omega⟩
    · rw [← hW0, ← hq]; exact al_old (al_old (al_old (al_old (al_new rfl) _) _) _) _
    · rw [← hW0, ← hq]; exact al_old (al_old (al_old (al_new (by simp)) _) _) _
    · rw [← hW0, ← hq]; exact al_old (al_old (al_new (by simp)) _) _
  have hb1 : W0.heap[q + 3]? = some (.cells #[.slice R kas.length c] 22 (0, 0)) := by rw [← hW0, ← hq]; exact al_old (al_new (by simp)) _
  have hb2 : W0.heap[q + 4]? = some (.cells #[.int .i64 16] 3 (0, 0)) := by rw [← hW0, ← hq]; exact al_new (by simp)
  rw [hW0, hq]
  clear hW0 hfl' hFq hB30 hb13
  have hseq := chunk1 (n := 5) (b := b) (by omega) (fun h0 => HRR.out (by intro e; rw [HL.out, e] at h0; simp at h0)) hc' (by omega) hb1 hb2
  refine range_one (F := Fence.wide) (n := 6) rfl (by omega) (gf := 49) rfl trivial (enters_of Try.func49 (by kernel_rfl) rfl) hseq
    (fun l o hst _ hl _ => (hst.block l (Array.getElem?_eq_some_iff.1 hl).1).trans hl) (fun h k => h.trans k) (fun W l o o' _ hl ho _ => Kc.put hl ho) (fun xs W l o o' hwl hl ho hS => hS) (Below.refl _ _)
    (fun pre W => TwI w q F g kas pre.length W) (fun pre A B h hst => h.step hst) (fun pre W l o o' hwl hl ho h => h.put (by omega) hl ho) (fun W o h => h.step ((Below.refl _ W).alloc (Nat.le_refl _) _)) hI0
    12 (fun pre j W => TwI w q F g kas j W ∧ pre = List.range j ∧ 16 * j < kas.length) (fun pre x W l o o' hwl hl ho h => ⟨h.1.put (by omega) hl ho, h.2⟩) ?assign (fun W => Kc.of_below (Below.refl _ _)) ?body ?done
  case assign =>
    rintro l pre j W K hI ⟨rfl, hlt⟩ hK
    rw [List.length_range] at hI
    have hK2 := hK ⟨hI, rfl, hlt⟩
    clear hK
    simp only [List.setIfInBounds_toArray, List.set_cons_zero, List.set_cons_succ] at hK2 ⊢
    gi_wp2
    exact hK2
  case body =>
    rintro l pre j W ⟨hI, rfl, hlt⟩
    simp only [List.setIfInBounds_toArray, List.set_cons_zero, List.set_cons_succ]
    obtain ⟨O, hO⟩ : ∃ O, 16 * j * 7 = O := ⟨_, rfl⟩
    obtain ⟨pn, hpn⟩ : ∃ pn, partN kas.length j = pn := ⟨_, rfl⟩
    rw [hO, hpn]
    have hpl : (prtF kas j).length = pn := by rw [prt_len, hpn]
    have hpn1 : 1 ≤ pn ∧ pn ≤ 16 ∧ 16 * j + pn ≤ kas.length := by rw [← hpn]; unfold partN; omega
    have HPL := Aside0.mk hpl
    have HO := Aside0.mk hO
    have HI := Aside0.mk hI
    clear hpl hO hpn hI
    gi_wp2
    gi_loopg [13, 48] pn (fun n' rv iv wr => ∃ (m : Nat) (prs : List Pr), iv = .int .i64 m ∧ m ≤ pn ∧ Aside0 (wr.ownsRow W.heap.size 75 2 rv prs.length (prs.flatMap Pr.cells)) ∧ Aside0 (prs.map Pr.kv = kvsF ((prtF kas j).take m)) ∧ Aside0 (∀ p ∈ prs, IPr w wr W.heap.size p) ∧
      Aside0 (FlAt wr w.heap.size F g 6 (bloF (bloF (List.replicate (dgF kas.length) 0) ((kas.take (16 * j)).map Prod.fst)) (((prtF kas j).take m).map Prod.fst))) ∧ Aside0 (But g W wr) ∧ n' = pn - m)
    case atStart => exact ⟨0, [], rfl, by omega, ⟨World.ownsRow_nil _ _ _ _⟩, ⟨by simp [kvsF]⟩, ⟨fun p hp => by cases hp⟩, ⟨by simpa [bloF] using HI.out.fl⟩, ⟨But.of_below (Below.refl _ _)⟩, by omega⟩
    case round =>
      obtain ⟨m, prs, rfl, hm, HR, HKV, HIP, HF, HB, rfl⟩ := hrel
      have hBw : Below w.heap.size w wr := HI.out.below.grown HB.out HI.out.below.size (fun k e => by cases e; exact HF.out.gB)
      have hb8 : wr.heap[q]? = some (.cells #[.pointer (some ⟨F, 0, none⟩)] 65 (0, 0)) := (HB.out.block q (by have := HI.out.sz; omega) (by have := HI.out.Fq.2; simp; omega)).trans HI.out.b8
      by_cases hlt : m < pn
      · have t1 : decide ((m : Int) < (pn : Int)) = true := decide_eq_true (by omega)
        have t2 : decide (m < pn) = true := decide_eq_true hlt
        have hie : 16 * j + m < es.length := by rw [← HL.out]; omega
        obtain ⟨x0, x1, x2, x3, x4, x5, x6⟩ := (H.out.below hBw).cells hie
        rw [show 0 + (16 * j + m) * 7 = O + m * 7 by rw [← HO.out]; omega] at x0 x1 x2 x3 x4 x5 x6
        have hxr := H.out.rd _ (List.getElem_mem hie)
        have hpx : ∃ h, (prtF kas j)[m]'h = es[16 * j + m].ka := by
          refine ⟨by rw [HPL.out]; exact hlt, ?_⟩
          simp [prtF, ← HKA.out]
        have hmem : es[16 * j + m].ka ∈ kas := by rw [← HKA.out]; exact List.mem_map.2 ⟨_, List.getElem_mem hie, rfl⟩
        have hkb := HOK.out.k _ hmem
        have hga := HOK.out.a _ hmem
        generalize es[16 * j + m] = x at *
        obtain ⟨A, xc, k, a⟩ := x
        obtain ⟨hrk, hkc, ⟨A, rfl⟩⟩ := hxr
        simp only [Ent.ka] at x0 x1 x2 x3 x4 x5 x6 hkb hga hrk hkc hpx
        obtain ⟨ac, ao, ah, al, an, ax⟩ := a
        simp only at x0 x1 x2 x3 x4 x5 x6
        obtain ⟨hpj, hpx⟩ := hpx
        have hkv : kvsF ((prtF kas j).take (m + 1)) = kvsF ((prtF kas j).take m) ++ [(k, aggB ⟨ac, ao, ah, al, an, ax⟩)] := by
          rw [List.take_add_one, List.getElem?_eq_getElem hpj, hpx]; simp [kvsF]
        have hks : ((prtF kas j).take (m + 1)).map Prod.fst = ((prtF kas j).take m).map Prod.fst ++ [k] := by
          rw [List.take_add_one, List.getElem?_eq_getElem hpj, hpx]; simp
        have HKS := Aside0.mk hks
        have HKV2 := Aside0.mk hkv
        have HRK := Aside0.mk hrk
        have HGA := Aside0.mk hga
        obtain ⟨ev, hev⟩ : ∃ ev, wr.heap.size = ev := ⟨_, rfl⟩
        obtain ⟨w4, hw4⟩ : ∃ w4, wr.alloc (.cells #[.slice (some A) k.length xc, .int .u64 ac, .bool ao, .int .i64 ah, .int .u64 al, .int .i64 an, .int .i64 ax] 36) = w4 := ⟨_, rfl⟩
        have hb4 : Below wr.heap.size wr w4 := by rw [← hw4]; exact (Below.refl _ _).alloc (Nat.le_refl _) _
        have hN4 : w4.heap[ev]? = some (.cells #[.slice (some A) k.length xc, .int .u64 ac, .bool ao, .int .i64 ah, .int .u64 al, .int .i64 an, .int .i64 ax] 36 (0, 0)) := by rw [← hw4]; exact al_new hev.symm
        have y8 : (wr.alloc (.cells #[.slice (some A) k.length xc, .int .u64 ac, .bool ao, .int .i64 ah, .int .u64 al, .int .i64 an, .int .i64 ax] 36)).cell? ⟨q, 0, none⟩ = some (.pointer (some ⟨F, 0, none⟩)) := (blk_cell (al_old hb8 _) 0).trans rfl
        have hfl4 := HF.out.below hb4
        have hbl : (bloF (bloF (List.replicate (dgF kas.length) 0) ((kas.take (16 * j)).map Prod.fst)) (((prtF kas j).take m).map Prod.fst)).length = dgF kas.length := by rw [bloF_len, bloF_len, List.length_replicate]
        have hadd := badd_c (c := xc) hfl4 (hrk.below (hBw.trans (hb4.mono hBw.size))) (by omega) hkb.1 (by rw [hbl]; unfold dgF; omega) (by rw [hbl]; unfold dgF; omega) (by omega) (by omega)
        unfold ptr at hadd
        have HADD := Aside0.mk hadd
        have HW4 := Aside0.mk hw4
        have HN4 := Aside0.mk hN4
        have HB4 := Aside0.mk hb4
        have hgev : g ≠ ev := by
          have h1 := blk_lt HF.out.gb
          omega
        obtain ⟨i0, hi, hzz⟩ := Option.map_eq_some_iff.1 info_pr
        simp only [Prod.mk.injEq] at hzz
        obtain ⟨hz0, hz1, hz2⟩ := hzz
        clear hadd hw4 hN4 hb4 hfl4 hbl hks hkv hrk hga hpx hpj hb8
        gi_wp2_with (first
          | (refine ⟨trivial, ?_⟩
             gi_at_call 30
             rw [HW4.out]
             refine (callsIn_round HADD.out).mono ?_
             rintro e w5 ⟨rfl, hfl5, hbut5⟩
             have hN5 := (hbut5.block ev (blk_lt HN4.out) (by simp; omega)).trans HN4.out
             have z0 : w5.cell? ⟨ev, 0, none⟩ = some (.slice (some A) k.length xc) := (blk_cell hN5 0).trans rfl
             have z1 : w5.cell? ⟨ev, 1, none⟩ = some (.int .u64 ac) := (blk_cell hN5 1).trans rfl
             have z2 : w5.cell? ⟨ev, 2, none⟩ = some (.bool ao) := (blk_cell hN5 2).trans rfl
             have z3 : w5.cell? ⟨ev, 3, none⟩ = some (.int .i64 ah) := (blk_cell hN5 3).trans rfl
             have z4 : w5.cell? ⟨ev, 4, none⟩ = some (.int .u64 al) := (blk_cell hN5 4).trans rfl
             have z5 : w5.cell? ⟨ev, 5, none⟩ = some (.int .i64 an) := (blk_cell hN5 5).trans rfl
             have z6 : w5.cell? ⟨ev, 6, none⟩ = some (.int .i64 ax) := (blk_cell hN5 6).trans rfl
             have haw := awrite_c (w := w5) HGA.out
             unfold Ag.v at haw
             have HAW := Aside0.mk haw
             clear haw)
          | (refine ⟨trivial, ?_⟩
             gi_at_call 31
             refine (callsIn_round HAW.out).mono ?_
             rintro e w6 ⟨v6, rfl, ho6, hb6⟩
             obtain ⟨B6, d6, rfl, hr6, hd6⟩ := own_b ho6 (by rw [aggB_len]; omega)
             have hN6 := (hb6.block _ (blk_lt hN5)).trans hN5
             have u0 : w6.cell? ⟨ev, 0, none⟩ = some (.slice (some A) k.length xc) := (blk_cell hN6 0).trans rfl
             have hB06 : But g W w6 := (HB.out.trans (But.of_below HB4.out)).trans (hbut5.trans (But.of_below hb6))
             have hR6 : w6.ownsRow W.heap.size 75 2 u13 prs.length (prs.flatMap Pr.cells) := own_move HR.out fun kk hk => (by
               obtain ⟨cs, hc⟩ := own_typed HR.out kk hk
               have h1 := blk_lt hc
               have h2 := HB4.out.block kk h1
               have hne : kk ≠ g := fun e => by subst e; rw [HF.out.gb] at hc; simp at hc
               rw [hb6.block kk (by have := hbut5.size; have := HB4.out.size; omega), hbut5.block kk (by have := HB4.out.size; omega) (by simp; exact hne), h2])
             have hl63 : prs.length ≤ 16 := by have := congrArg List.length HKV.out; simp [kvsF] at this; omega
             have HR6 := Aside0.mk hR6
             have HB06 := Aside0.mk hB06
             have HO6 := Aside0.mk ho6
             have HD6 := Aside0.mk hd6
             clear ho6 hr6 hR6 hB06 hd6 z0 z1 z2 z3 z4 z5 z6 hN5)
          | (gi_at_builtin
             refine wpListIn_append_own_at _ rfl _ _ 68 rfl W.heap.size 75 i0 _ 2 48 Try.underlying68 hi hz0 hz1 hz2 rfl (by decide) _ _ _ rfl (HR6.out.alloc _) ⟨w6.heap.size, 0, none⟩ 1 1 (Pr.cells ⟨A, k, xc, B6, aggB ⟨ac, ao, ah, al, an, ax⟩, d6⟩) rfl rfl (pcells_new w6 ⟨A, k, xc, B6, aggB ⟨ac, ao, ah, al, an, ax⟩, d6⟩) (pcells_one _) (by simp only [maxLen]; omega) (by omega) (by simp [World.size_alloc]; have := HB06.out.size; omega) ?_
             intro v7 w7 hown7 hg7 hnil7 hat7
             go_frame)
          | fail)
        have hgW : g < W.heap.size := by have := HI.out.Fq.2; have := HI.out.sz; omega
        have hs54 := hbut5.size
        have hs4 := HB4.out.size
        have hpair : ∀ p : Pr, IPr w wr W.heap.size p → IPr w w7 W.heap.size p := fun p hp => by
          obtain ⟨cs, hc⟩ := own_typed hp.v p.B.block rfl
          have hlt1 := blk_lt hc
          have hge := (hp.v.lt p.B.block rfl).1
          have h4 := (HB4.out.block _ hlt1).trans hc
          have h5 := (hbut5.block _ (by omega) (by simp; omega)).trans h4
          have h6 := (hb6.block _ (blk_lt h5)).trans h5
          exact hp.move ((box_agrown h6 HR6.out hg7).trans hc.symm)
        have hnew : IPr w w7 W.heap.size ⟨A, k, xc, B6, aggB ⟨ac, ao, ah, al, an, ax⟩, d6⟩ := ⟨HRK.out, hkc, own_move (own_low HO6.out (by have := HB.out.size; omega)) fun kk hk => (by
          obtain ⟨cs, hc⟩ := own_typed HO6.out kk hk
          exact (box_agrown hc HR6.out hg7).trans hc.symm), HD6.out⟩
        have hfl7 : FlAt w7 w.heap.size F g 6 (bloF (bloF (List.replicate (dgF kas.length) 0) ((kas.take (16 * j)).map Prod.fst)) (((prtF kas j).take (m + 1)).map Prod.fst)) := by
          rw [HKS.out, bloF_app]
          have h6 := hfl5.below hb6
          exact ⟨box_agrown h6.fb HR6.out hg7, box_agrown h6.gb HR6.out hg7, h6.Fb, h6.gB⟩
        gi_roundg (pn - (m + 1))
        all_goals first
        | exact ⟨m + 1, prs ++ [⟨A, k, xc, B6, aggB ⟨ac, ao, ah, al, an, ax⟩, d6⟩], by push_cast; rfl, by omega, ⟨by rw [List.length_append, List.flatMap_append]; simpa using hown7⟩, ⟨by rw [List.map_append, HKV.out, HKV2.out]; rfl⟩, ⟨fun p hp => by
            rcases List.mem_append.1 hp with hp | hp
            · exact hpair p (HIP.out p hp)
            · obtain rfl := List.mem_singleton.1 hp
              exact hnew⟩, ⟨hfl7⟩, ⟨HB06.out.grow HR6.out hg7⟩, rfl⟩
        | omega
      · obtain rfl : m = pn := by omega
        obtain ⟨ov, iv, ps, h1, h2, h3, h4, h5, h6, h7⟩ := HI.out.outs HB.out
        have hall : (prtF kas j).take m = prtF kas j := List.take_of_length_le (by rw [HPL.out]; exact Nat.le_refl _)
        rw [hall] at HKV HF
        have hpl : prs.length = m := by have := congrArg List.length HKV.out; simpa [kvsF, HPL.out] using this
        obtain ⟨RA, rc, rfl, hrow⟩ := row_slice HR.out
        obtain ⟨rb, rfl, hrlt, _⟩ := hrow 0 (by rw [HR.out.1]; omega)
        have hrb := (HR.out.lt rb rfl).1
        have hqrb : q + 5 ≤ rb := by have := HI.out.sz; omega
        have HNE := Aside0.mk (show iv.ownBlock ≠ some rb from fun e => by have := h7 rb e; omega)
        clear h7
        have hm1 : m - 1 < prs.length := by omega
        obtain ⟨pm, hpm⟩ : ∃ pm, pm = m - 1 := ⟨_, rfl⟩
        have hkey : wr.cell? ⟨rb, pm * 2, none⟩ = some (.slice (some prs[m - 1].A) prs[m - 1].k.length prs[m - 1].c) := by
          obtain ⟨g', e1, _, e2⟩ := hrow (pm * 2 + 0) (by rw [HR.out.1]; omega)
          rw [pflat_get prs pm 0 (by omega) (by omega)] at e2
          simp only [Option.some.injEq, Addr.mk.injEq] at e1
          rw [← e1.1] at e2
          simp only [hpm] at e2 ⊢
          exact e2
        have hlk : prs[m - 1].k = keyF kas j := by
          have h1 : prs.map Pr.k = (prtF kas j).map Prod.fst := by
            have := congrArg (List.map Prod.fst) HKV.out
            simpa [kvsF, Function.comp_def, Pr.kv] using this
          unfold keyF
          rw [← h1, List.getLastD_eq_getLast?, List.getLast?_map, List.getLast?_eq_getElem?, hpl, List.getElem?_eq_getElem hm1]
          rfl
        have hlr := HIP.out _ (List.getElem_mem hm1)
        generalize prs[m - 1] = lp at *
        obtain ⟨lA, lk, lc, lB, lv, ld⟩ := lp
        simp only at hkey hlk
        have hlrk := hlr.k
        have hlrc := hlr.kc
        simp only at hlrk hlrc
        have hol : (allF (blksF kas j)).length ≤ 500000 := by have := blks_le HOK.out j; omega
        obtain ⟨oA, oc, rfl, hor, hocc, hoc0, hob⟩ := own_form h2
        generalize hOL : (allF (blksF kas j)).length = ol at *
        have h8 := eight_c (w := wr.drew) (B := wr.heap.size) (v := .slice none 0 0) (l := []) (u := ol) (by omega) (Nat.le_refl _) (nil_own _ _) (by simp)
        have H8 := Aside0.mk h8
        have H1 := Aside0.mk h1
        have H2 := Aside0.mk h2
        have H3 := Aside0.mk h3
        have H4 := Aside0.mk h4
        have H5 := Aside0.mk h5
        have H6 := Aside0.mk h6
        have hps : ps.length = j := by have := congrArg List.length h5; simpa [idxF] using this
        have c70 : wr.cell? ⟨q + 1 + 1, 0, none⟩ = some iv := (blk_cell h3 0).trans rfl
        have c78 : wr.cell? ⟨q + 1, 0, none⟩ = some (.slice oA ol oc) := (blk_cell h1 0).trans rfl
        have hbS : q + 5 ≤ wr.heap.size := by have := HB.out.size; have := HI.out.sz; omega
        have HPS := Aside0.mk hps
        clear hps
        have HROW := Aside0.mk hrow
        have HLRK := Aside0.mk hlrk
        have HLK := Aside0.mk hlk
        have HOF := Aside0.mk (And.intro hor (And.intro hocc (And.intro hoc0 hob)))
        have HOL := Aside0.mk hOL
        have HPLL := Aside0.mk hpl
        have hlen : ∀ p ∈ prs, p.k.length ≤ 4096 ∧ p.v.length ≤ 4096 := fun p hp => by
          have h1 : p.kv ∈ kvsF (prtF kas j) := by rw [← HKV.out]; exact List.mem_map.2 ⟨p, hp, rfl⟩
          have h2 := (HOK.out.prt j).kv
          exact ⟨(h2.k _ h1).2.2, (h2.v _ h1).2.2⟩
        have hprs : prs.length ≤ 4096 := by omega
        have hkk : prs.map Pr.k = (prtF kas j).map Prod.fst := by
          have := congrArg (List.map Prod.fst) HKV.out
          simpa [kvsF, Function.comp_def, Pr.kv] using this
        have hsrt : Srt (prs.map Pr.k) := by
          rw [hkk]
          exact ⟨fun k hk => by obtain ⟨x, hx, rfl⟩ := List.mem_map.1 hk; exact ((HOK.out.prt j).k x hx).1, (HOK.out.prt j).s⟩
        have htot : (rowB 0 [] (prs.map Pr.kv)).length ≤ 1000000 := by rw [HKV.out]; have := blk_le HOK.out j; unfold blkF at this; omega
        have hkvs : prs.map Pr.kv = kvsF (prtF kas j) := HKV.out
        have hbyt : Byt (rowB 0 [] (kvsF (prtF kas j))) := rowB_byt _ _ _ fun x hx => ⟨((HOK.out.prt j).kv.k x hx).1, ((HOK.out.prt j).kv.v x hx).1⟩
        clear hkk
        clear h1 h2 h3 h4 h5 h6 h8 hrow hlrk hlk hor hocc hoc0 hob hOL hpl hall hlr hm1
        have HPM := Aside0.mk hpm
        have s0 : (prs.length : Int) - 1 = (pm : Int) := by have := HPLL.out; omega
        have b0 : (0 : Int) ≤ (pm : Int) := by omega
        have b1 : (pm : Int) < (prs.length : Int) := by have := HPLL.out; omega
        have hpm16 : pm < 16 := by omega
        clear hpm
        gi_wp2
        have s1 : IntKind.i64.wrap (pm : Int) = (pm : Int) := by rw [IntKind.wrap_i64]; omega
        have s2 : wrap64 (pm : Int) = (pm : Int) := by unfold wrap64; omega
        have s3 : IntKind.i64.wrap ((prs.length : Int) - 1) = (pm : Int) := by rw [s0, s1]
        have s4 : wrap64 ((prs.length : Int) - 1) = (pm : Int) := by rw [s0, s2]
        refine wpIn_region_round (S := fun W' => W'.cell? ⟨rb, pm * 2, none⟩ = some (.slice (some lA) lk.length lc) ∧ W'.cell? ⟨q + 1, 0, none⟩ = some (.slice oA ol oc)) hmx (by kernel_rfl) ⟨hkey, c78⟩ (fun hHeld => ?_)
        refine tk (i := 1) (N := 71) (v := .slice (some ⟨rb, 0, none⟩) prs.length rc) rfl rfl (by kernel_rfl) (by kernel_rfl) (by kernel_rfl) (fun _ _ _ h => h) (Or.inl ⟨by rfl, fun w' hS => by (obtain ⟨k1, k2⟩ := hS; go_simp)⟩) hHeld ?_
        simp only [Act.put, List.setIfInBounds_toArray, List.set_cons_zero, List.set_cons_succ]
        refine tk (i := 2) (N := 72) (v := .slice (some ⟨rb, 0, none⟩) prs.length rc) rfl rfl (by kernel_rfl) (by kernel_rfl) (by kernel_rfl) (fun _ _ _ h => h) (Or.inl ⟨by rfl, fun w' hS => by (obtain ⟨k1, k2⟩ := hS; go_simp)⟩) hHeld ?_
        simp only [Act.put, List.setIfInBounds_toArray, List.set_cons_zero, List.set_cons_succ]
        refine tk (i := 3) (N := 73) (v := .int .i64 (prs.length : Nat)) rfl rfl (by kernel_rfl) (by kernel_rfl) (by kernel_rfl) (fun _ _ _ h => h) (Or.inl ⟨by rfl, fun w' hS => by (obtain ⟨k1, k2⟩ := hS; go_simp)⟩) hHeld ?_
        simp only [Act.put, List.setIfInBounds_toArray, List.set_cons_zero, List.set_cons_succ]
        refine tk (i := 4) (N := 74) (v := .int .i64 (pm : Nat)) rfl rfl (by kernel_rfl) (by kernel_rfl) (by kernel_rfl) (fun _ _ _ h => h) (Or.inl ⟨by rfl, fun w' hS => by (obtain ⟨k1, k2⟩ := hS; go_simp)⟩) hHeld ?_
        simp only [Act.put, List.setIfInBounds_toArray, List.set_cons_zero, List.set_cons_succ]
        refine tk (i := 5) (N := 75) (v := .pointer (some ⟨rb, pm * 2, none⟩)) rfl rfl (by kernel_rfl) (by kernel_rfl) (by kernel_rfl) (fun _ _ _ h => h) (Or.inl ⟨by rfl, fun w' hS => by (obtain ⟨k1, k2⟩ := hS; go_simp)⟩) hHeld ?_
        simp only [Act.put, List.setIfInBounds_toArray, List.set_cons_zero, List.set_cons_succ]
        refine tk (i := 6) (N := 76) (v := .pointer (some ⟨rb, pm * 2, none⟩)) rfl rfl (by kernel_rfl) (by kernel_rfl) (by kernel_rfl) (fun _ _ _ h => h) (Or.inl ⟨by rfl, fun w' hS => by (obtain ⟨k1, k2⟩ := hS; go_simp)⟩) hHeld ?_
        simp only [Act.put, List.setIfInBounds_toArray, List.set_cons_zero, List.set_cons_succ]
        refine tk (i := 7) (N := 77) (v := .slice (some lA) lk.length lc) rfl rfl (by kernel_rfl) (by kernel_rfl) (by kernel_rfl) (fun _ _ _ h => h) (Or.inl ⟨by rfl, fun w' hS => by (obtain ⟨k1, k2⟩ := hS; go_simp)⟩) hHeld ?_
        simp only [Act.put, List.setIfInBounds_toArray, List.set_cons_zero, List.set_cons_succ]
        refine tk (i := 8) (N := 78) (v := .slice oA ol oc) rfl rfl (by kernel_rfl) (by kernel_rfl) (by kernel_rfl) (fun _ _ _ h => h) (Or.inl ⟨by rfl, fun w' hS => by (obtain ⟨k1, k2⟩ := hS; go_simp)⟩) hHeld ?_
        simp only [Act.put, List.setIfInBounds_toArray, List.set_cons_zero, List.set_cons_succ]
        refine tk (i := 9) (N := 79) (v := .int .i64 (ol : Nat)) rfl rfl (by kernel_rfl) (by kernel_rfl) (by kernel_rfl) (fun _ _ _ h => h) (Or.inl ⟨by rfl, fun w' hS => by (obtain ⟨k1, k2⟩ := hS; go_simp)⟩) hHeld ?_
        simp only [Act.put, List.setIfInBounds_toArray, List.set_cons_zero, List.set_cons_succ]
        clear s0 s1 s2 s3 s4
        refine wpAnyH_ready (rs := [0, 10]) (by kernel_rfl) (by simp) ?_
        refine AllReadyH.cons (o := _) rfl (fun K hK => ?_) (AllReadyH.cons (o := _) rfl (fun K hK => ?_) AllReadyH.nil)
        · rw [if_pos (by rfl)]
          go_simp
          refine Shut.out hK _ _ hHeld (fun hHeld => ?_)
          clear hK K
          try simp only [Act.put, List.setIfInBounds_toArray, List.set_cons_zero, List.set_cons_succ]
          refine wpAnyH_ready (rs := [10]) (by kernel_rfl) (by simp) ?_
          refine AllReadyH.cons (o := _) rfl (fun K hK => ?_) AllReadyH.nil
          rw [if_pos (by rfl)]
          go_simp
          refine H8.out.mono ?_
          rintro e w5 ⟨v5, rfl, ho5, hg5, hat5⟩
          rw [List.nil_append] at ho5
          have hb5 : Below wr.heap.size wr w5 := (below_drew (Below.refl wr.heap.size wr)).trans ((Below.refl wr.drew.heap.size wr.drew).grown hg5 (Nat.le_refl _) (fun k hk => by simp [Value.ownBlock] at hk))
          obtain ⟨E5, e5, rfl, hr5, he5⟩ := own_b ho5 (by rw [numb_length]; omega)
          have c75 : w5.cell? ⟨q + 1 + 1, 0, none⟩ = some iv := cell_below hb5 c70
          have c76 : w5.cell? ⟨rb, pm * 2, none⟩ = some (.slice (some lA) lk.length lc) := cell_below hb5 hkey
          have c78' : w5.cell? ⟨q + 1, 0, none⟩ = some (.slice oA ol oc) := cell_below hb5 c78
          have hba := (Below.refl w5.heap.size w5).alloc (Nat.le_refl _) (.cells #[.slice (some lA) lk.length lc, .slice (some E5) (numb ol 8).length e5] 75)
          have c77 : (w5.alloc (.cells #[.slice (some lA) lk.length lc, .slice (some E5) (numb ol 8).length e5] 75)).cell? ⟨q + 1 + 1, 0, none⟩ = some iv := cell_below hba c75
          have c7a : (w5.alloc (.cells #[.slice (some lA) lk.length lc, .slice (some E5) (numb ol 8).length e5] 75)).cell? ⟨rb, pm * 2, none⟩ = some (.slice (some lA) lk.length lc) := cell_below hba c76
          have c7b : (w5.alloc (.cells #[.slice (some lA) lk.length lc, .slice (some E5) (numb ol 8).length e5] 75)).cell? ⟨q + 1, 0, none⟩ = some (.slice oA ol oc) := cell_below hba c78'
          obtain ⟨g6, k6, w6, hrun, ho6, hg6⟩ := run_append_pair (w := w5) ⟨lA, lk, lc, E5, numb ol 8, e5⟩ 68 (own_below H4.out hb5) (by have := HPS.out; omega) (by have := hb5.size; omega)
          simp only at hrun
          have hib5 := (hb5.block _ (blk_lt H3.out)).trans H3.out
          have hob5 := (hb5.block _ (blk_lt H1.out)).trans H1.out
          have hib6 := box_agrown hib5 (own_below H4.out hb5) hg6
          have hob6 := box_agrown hob5 (own_below H4.out hb5) hg6
          have c79 : w6.cell? ⟨q + 1 + 1, 0, none⟩ = some iv := (blk_cell hib6 0).trans rfl
          have f79 : w6.frozen? ⟨q + 1 + 1, 0, none⟩ = false := blk_frozen hib6 0
          have c7c : w6.cell? ⟨q + 1, 0, none⟩ = some (.slice oA ol oc) := (blk_cell hob6 0).trans rfl
          have hrb6 : w6.heap[rb]? = wr.heap[rb]? := (hg6.block rb (by have := hb5.size; simp [World.size_alloc]; omega) (fun e => HNE.out e.symm)).trans ((Below.heap_alloc _ _ _ (by have := hb5.size; omega)).trans (hb5.block rb hrlt))
          have c7d : w6.cell? ⟨rb, pm * 2, none⟩ = some (.slice (some lA) lk.length lc) := (World.cell?_of_block (w := wr) (w' := w6) hrb6).trans hkey
          refine Shut.out hK _ _ ⟨c76, c78'⟩ (fun hHeld => ?_)
          clear hK K
          try simp only [Act.put, List.setIfInBounds_toArray, List.set_cons_zero, List.set_cons_succ]
          refine tk (i := 11) (N := 81) (v := .agg #[.slice (some lA) lk.length lc, .slice (some E5) (numb ol 8).length e5]) rfl rfl (by kernel_rfl) (by kernel_rfl) (by kernel_rfl) (fun _ _ _ h => h) (Or.inl ⟨by rfl, fun w' hS => by (obtain ⟨k1, k2⟩ := hS; go_simp)⟩) hHeld ?_
          simp only [Act.put, List.setIfInBounds_toArray, List.set_cons_zero, List.set_cons_succ]
          refine wpAnyH_ready (rs := [12]) (by kernel_rfl) (by simp) ?_
          refine AllReadyH.cons (o := _) rfl (fun K hK => ?_) AllReadyH.nil
          rw [if_pos (by rfl)]
          go_simp
          refine Shut.out hK _ _ ⟨c7a, c7b⟩ (fun hHeld => ?_)
          clear hK K
          try simp only [Act.put, List.setIfInBounds_toArray, List.set_cons_zero, List.set_cons_succ]
          refine wpAnyH_ready (rs := [13]) (by kernel_rfl) (by simp) ?_
          refine AllReadyH.cons (o := _) rfl (fun K hK => ?_) AllReadyH.nil
          refine step_append_run rfl _ _ (by rfl) (by rfl) (by rfl) hrun ?_
          refine Shut.out hK _ _ ⟨c7d, c7c⟩ (fun hHeld => ?_)
          clear hK K
          try simp only [Act.put, List.setIfInBounds_toArray, List.set_cons_zero, List.set_cons_succ]
          refine wpAnyH_ready (rs := [14]) (by kernel_rfl) (by simp) ?_
          refine AllReadyH.cons (o := _) rfl (fun K hK => ?_) AllReadyH.nil
          rw [if_pos (by rfl)]
          go_simp
          refine Shut.out hK _ _ ⟨(World.cell?_setCell_far _ _ _ _ (by simp; omega)).trans c7d, (World.cell?_setCell_far _ _ _ _ (by simp)).trans c7c⟩ (fun hHeld => ?_)
          clear hK K
          try simp only [Act.put, List.setIfInBounds_toArray, List.set_cons_zero, List.set_cons_succ]
          refine wpAnyH_done (by kernel_rfl) ?_ _
          refine Only.normal ?_
          have hM := tw_mid HI.out HB.out hBw hb8 HF.out HR.out HIP.out H1.out H2.out H3.out H4.out H5.out H6.out HNE.out hb5 ho5 he5 HLRK.out hlrc HLK.out HOL.out ho6 hg6
          refine end_at (TwM w W q F g rb kas j ol oA oc prs (ps ++ [⟨lA, lk, lc, E5, numb ol 8, e5⟩]) (.slice (some ⟨g6, 0, none⟩) (ps.length + 1) k6)) hM ?_
          clear hM hib6 hob6 c79 f79 c7c hrb6 c7d ho6 hg6 hrun c75 c76 c78' hba c77 c7a c7b hHeld hib5 hob5
          intro W7 hM
          have hbw := bwrow_c (w := W7) (c := rc) hM.row hlen hprs hsrt htot
          rw [hkvs] at hbw
          have HBWR := Aside0.mk hbw
          clear hbw
          gi_wp2_with (first
            | (refine ⟨trivial, ?_⟩
               gi_at_call 33
               refine (callsIn_round HBWR.out).mono ?_
               rintro e w8 ⟨v8, rfl, ho8, hb8'⟩
               obtain ⟨A8, c8, rfl, hr8, hc8, hn8, _⟩ := own_form ho8
               have hob8 := (hb8'.block _ (blk_lt hM.ob)).trans hM.ob
               have c88 : w8.cell? ⟨q + 1, 0, none⟩ = some (.slice oA ol oc) := (blk_cell hob8 0).trans rfl
               have hout8 := own_below hM.out hb8'
               have hfr := framed_c (w := w8) (B := q + 5) (by have := hb8'.size; have := hM.sz; omega) (by rw [← HOL.out] at hout8; exact hout8) hr8 hn8 hc8 hbyt (by have := blk_le HOK.out j; unfold blkF at this; omega) (by rw [HOL.out]; omega)
               rw [HOL.out] at hfr
               have HFR := Aside0.mk hfr
               clear hfr)
            | (refine ⟨trivial, ?_⟩
               gi_at_call 34
               refine (callsIn_round HFR.out).mono ?_
               rintro e w9 ⟨v9, rfl, ho9, hg9, hat9⟩
               have hob9 := box_grown hob8 hout8 hg9
               have c99 : w9.cell? ⟨q + 1, 0, none⟩ = some (.slice oA ol oc) := (blk_cell hob9 0).trans rfl
               have f99 : w9.frozen? ⟨q + 1, 0, none⟩ = false := blk_frozen hob9 0
               have hcl := hM.close hb8' ho9 hg9 hat9
               obtain ⟨A9, c9, rfl, _⟩ := own_form ho9)
            | fail)
          have hlj : (List.range j ++ [j]).length = j + 1 := by simp
          rw [List.length_append] at hcl
          refine ⟨hcl.1, hcl.2.1, ?_⟩
          show TwI w q F g kas (List.range j ++ [j]).length _
          rw [hlj]
          exact hcl.2.2
        · rw [if_pos (by rfl)]
          go_simp
          refine H8.out.mono ?_
          rintro e w5 ⟨v5, rfl, ho5, hg5, hat5⟩
          rw [List.nil_append] at ho5
          have hb5 : Below wr.heap.size wr w5 := (below_drew (Below.refl wr.heap.size wr)).trans ((Below.refl wr.drew.heap.size wr.drew).grown hg5 (Nat.le_refl _) (fun k hk => by simp [Value.ownBlock] at hk))
          obtain ⟨E5, e5, rfl, hr5, he5⟩ := own_b ho5 (by rw [numb_length]; omega)
          have c75 : w5.cell? ⟨q + 1 + 1, 0, none⟩ = some iv := cell_below hb5 c70
          have c76 : w5.cell? ⟨rb, pm * 2, none⟩ = some (.slice (some lA) lk.length lc) := cell_below hb5 hkey
          have c78' : w5.cell? ⟨q + 1, 0, none⟩ = some (.slice oA ol oc) := cell_below hb5 c78
          have hba := (Below.refl w5.heap.size w5).alloc (Nat.le_refl _) (.cells #[.slice (some lA) lk.length lc, .slice (some E5) (numb ol 8).length e5] 75)
          have c77 : (w5.alloc (.cells #[.slice (some lA) lk.length lc, .slice (some E5) (numb ol 8).length e5] 75)).cell? ⟨q + 1 + 1, 0, none⟩ = some iv := cell_below hba c75
          have c7a : (w5.alloc (.cells #[.slice (some lA) lk.length lc, .slice (some E5) (numb ol 8).length e5] 75)).cell? ⟨rb, pm * 2, none⟩ = some (.slice (some lA) lk.length lc) := cell_below hba c76
          have c7b : (w5.alloc (.cells #[.slice (some lA) lk.length lc, .slice (some E5) (numb ol 8).length e5] 75)).cell? ⟨q + 1, 0, none⟩ = some (.slice oA ol oc) := cell_below hba c78'
          obtain ⟨g6, k6, w6, hrun, ho6, hg6⟩ := run_append_pair (w := w5) ⟨lA, lk, lc, E5, numb ol 8, e5⟩ 68 (own_below H4.out hb5) (by have := HPS.out; omega) (by have := hb5.size; omega)
          simp only at hrun
          have hib5 := (hb5.block _ (blk_lt H3.out)).trans H3.out
          have hob5 := (hb5.block _ (blk_lt H1.out)).trans H1.out
          have hib6 := box_agrown hib5 (own_below H4.out hb5) hg6
          have hob6 := box_agrown hob5 (own_below H4.out hb5) hg6
          have c79 : w6.cell? ⟨q + 1 + 1, 0, none⟩ = some iv := (blk_cell hib6 0).trans rfl
          have f79 : w6.frozen? ⟨q + 1 + 1, 0, none⟩ = false := blk_frozen hib6 0
          have c7c : w6.cell? ⟨q + 1, 0, none⟩ = some (.slice oA ol oc) := (blk_cell hob6 0).trans rfl
          have hrb6 : w6.heap[rb]? = wr.heap[rb]? := (hg6.block rb (by have := hb5.size; simp [World.size_alloc]; omega) (fun e => HNE.out e.symm)).trans ((Below.heap_alloc _ _ _ (by have := hb5.size; omega)).trans (hb5.block rb hrlt))
          have c7d : w6.cell? ⟨rb, pm * 2, none⟩ = some (.slice (some lA) lk.length lc) := (World.cell?_of_block (w := wr) (w' := w6) hrb6).trans hkey
          refine Shut.out hK _ _ ⟨c76, c78'⟩ (fun hHeld => ?_)
          clear hK K
          try simp only [Act.put, List.setIfInBounds_toArray, List.set_cons_zero, List.set_cons_succ]
          refine tk (i := 11) (N := 81) (v := .agg #[.slice (some lA) lk.length lc, .slice (some E5) (numb ol 8).length e5]) rfl rfl (by kernel_rfl) (by kernel_rfl) (by kernel_rfl) (fun _ _ _ h => h) (Or.inl ⟨by rfl, fun w' hS => by (obtain ⟨k1, k2⟩ := hS; go_simp)⟩) hHeld ?_
          simp only [Act.put, List.setIfInBounds_toArray, List.set_cons_zero, List.set_cons_succ]
          refine wpAnyH_ready (rs := [0, 12]) (by kernel_rfl) (by simp) ?_
          refine AllReadyH.cons (o := _) rfl (fun K hK => ?_) (AllReadyH.cons (o := _) rfl (fun K hK => ?_) AllReadyH.nil)
          · rw [if_pos (by rfl)]
            go_simp
            refine Shut.out hK _ _ hHeld (fun hHeld => ?_)
            clear hK K
            try simp only [Act.put, List.setIfInBounds_toArray, List.set_cons_zero, List.set_cons_succ]
            refine wpAnyH_ready (rs := [12]) (by kernel_rfl) (by simp) ?_
            refine AllReadyH.cons (o := _) rfl (fun K hK => ?_) AllReadyH.nil
            rw [if_pos (by rfl)]
            go_simp
            refine Shut.out hK _ _ ⟨c7a, c7b⟩ (fun hHeld => ?_)
            clear hK K
            try simp only [Act.put, List.setIfInBounds_toArray, List.set_cons_zero, List.set_cons_succ]
            refine wpAnyH_ready (rs := [13]) (by kernel_rfl) (by simp) ?_
            refine AllReadyH.cons (o := _) rfl (fun K hK => ?_) AllReadyH.nil
            refine step_append_run rfl _ _ (by rfl) (by rfl) (by rfl) hrun ?_
            refine Shut.out hK _ _ ⟨c7d, c7c⟩ (fun hHeld => ?_)
            clear hK K
            try simp only [Act.put, List.setIfInBounds_toArray, List.set_cons_zero, List.set_cons_succ]
            refine wpAnyH_ready (rs := [14]) (by kernel_rfl) (by simp) ?_
            refine AllReadyH.cons (o := _) rfl (fun K hK => ?_) AllReadyH.nil
            rw [if_pos (by rfl)]
            go_simp
            refine Shut.out hK _ _ ⟨(World.cell?_setCell_far _ _ _ _ (by simp; omega)).trans c7d, (World.cell?_setCell_far _ _ _ _ (by simp)).trans c7c⟩ (fun hHeld => ?_)
            clear hK K
            try simp only [Act.put, List.setIfInBounds_toArray, List.set_cons_zero, List.set_cons_succ]
            refine wpAnyH_done (by kernel_rfl) ?_ _
            refine Only.normal ?_
            have hM := tw_mid HI.out HB.out hBw hb8 HF.out HR.out HIP.out H1.out H2.out H3.out H4.out H5.out H6.out HNE.out hb5 ho5 he5 HLRK.out hlrc HLK.out HOL.out ho6 hg6
            refine end_at (TwM w W q F g rb kas j ol oA oc prs (ps ++ [⟨lA, lk, lc, E5, numb ol 8, e5⟩]) (.slice (some ⟨g6, 0, none⟩) (ps.length + 1) k6)) hM ?_
            clear hM hib6 hob6 c79 f79 c7c hrb6 c7d ho6 hg6 hrun c75 c76 c78' hba c77 c7a c7b hHeld hib5 hob5
            intro W7 hM
            have hbw := bwrow_c (w := W7) (c := rc) hM.row hlen hprs hsrt htot
            rw [hkvs] at hbw
            have HBWR := Aside0.mk hbw
            clear hbw
            gi_wp2_with (first
              | (refine ⟨trivial, ?_⟩
                 gi_at_call 33
                 refine (callsIn_round HBWR.out).mono ?_
                 rintro e w8 ⟨v8, rfl, ho8, hb8'⟩
                 obtain ⟨A8, c8, rfl, hr8, hc8, hn8, _⟩ := own_form ho8
                 have hob8 := (hb8'.block _ (blk_lt hM.ob)).trans hM.ob
                 have c88 : w8.cell? ⟨q + 1, 0, none⟩ = some (.slice oA ol oc) := (blk_cell hob8 0).trans rfl
                 have hout8 := own_below hM.out hb8'
                 have hfr := framed_c (w := w8) (B := q + 5) (by have := hb8'.size; have := hM.sz; omega) (by rw [← HOL.out] at hout8; exact hout8) hr8 hn8 hc8 hbyt (by have := blk_le HOK.out j; unfold blkF at this; omega) (by rw [HOL.out]; omega)
                 rw [HOL.out] at hfr
                 have HFR := Aside0.mk hfr
                 clear hfr)
              | (refine ⟨trivial, ?_⟩
                 gi_at_call 34
                 refine (callsIn_round HFR.out).mono ?_
                 rintro e w9 ⟨v9, rfl, ho9, hg9, hat9⟩
                 have hob9 := box_grown hob8 hout8 hg9
                 have c99 : w9.cell? ⟨q + 1, 0, none⟩ = some (.slice oA ol oc) := (blk_cell hob9 0).trans rfl
                 have f99 : w9.frozen? ⟨q + 1, 0, none⟩ = false := blk_frozen hob9 0
                 have hcl := hM.close hb8' ho9 hg9 hat9
                 obtain ⟨A9, c9, rfl, _⟩ := own_form ho9)
              | fail)
            have hlj : (List.range j ++ [j]).length = j + 1 := by simp
            rw [List.length_append] at hcl
            refine ⟨hcl.1, hcl.2.1, ?_⟩
            show TwI w q F g kas (List.range j ++ [j]).length _
            rw [hlj]
            exact hcl.2.2
          · rw [if_pos (by rfl)]
            go_simp
            refine Shut.out hK _ _ ⟨c7a, c7b⟩ (fun hHeld => ?_)
            clear hK K
            try simp only [Act.put, List.setIfInBounds_toArray, List.set_cons_zero, List.set_cons_succ]
            refine wpAnyH_ready (rs := [0]) (by kernel_rfl) (by simp) ?_
            refine AllReadyH.cons (o := _) rfl (fun K hK => ?_) AllReadyH.nil
            rw [if_pos (by rfl)]
            go_simp
            refine Shut.out hK _ _ hHeld (fun hHeld => ?_)
            clear hK K
            try simp only [Act.put, List.setIfInBounds_toArray, List.set_cons_zero, List.set_cons_succ]
            refine wpAnyH_ready (rs := [13]) (by kernel_rfl) (by simp) ?_
            refine AllReadyH.cons (o := _) rfl (fun K hK => ?_) AllReadyH.nil
            refine step_append_run rfl _ _ (by rfl) (by rfl) (by rfl) hrun ?_
            refine Shut.out hK _ _ ⟨c7d, c7c⟩ (fun hHeld => ?_)
            clear hK K
            try simp only [Act.put, List.setIfInBounds_toArray, List.set_cons_zero, List.set_cons_succ]
            refine wpAnyH_ready (rs := [14]) (by kernel_rfl) (by simp) ?_
            refine AllReadyH.cons (o := _) rfl (fun K hK => ?_) AllReadyH.nil
            rw [if_pos (by rfl)]
            go_simp
            refine Shut.out hK _ _ ⟨(World.cell?_setCell_far _ _ _ _ (by simp; omega)).trans c7d, (World.cell?_setCell_far _ _ _ _ (by simp)).trans c7c⟩ (fun hHeld => ?_)
            clear hK K
            try simp only [Act.put, List.setIfInBounds_toArray, List.set_cons_zero, List.set_cons_succ]
            refine wpAnyH_done (by kernel_rfl) ?_ _
            refine Only.normal ?_
            have hM := tw_mid HI.out HB.out hBw hb8 HF.out HR.out HIP.out H1.out H2.out H3.out H4.out H5.out H6.out HNE.out hb5 ho5 he5 HLRK.out hlrc HLK.out HOL.out ho6 hg6
            refine end_at (TwM w W q F g rb kas j ol oA oc prs (ps ++ [⟨lA, lk, lc, E5, numb ol 8, e5⟩]) (.slice (some ⟨g6, 0, none⟩) (ps.length + 1) k6)) hM ?_
            clear hM hib6 hob6 c79 f79 c7c hrb6 c7d ho6 hg6 hrun c75 c76 c78' hba c77 c7a c7b hHeld hib5 hob5
            intro W7 hM
            have hbw := bwrow_c (w := W7) (c := rc) hM.row hlen hprs hsrt htot
            rw [hkvs] at hbw
            have HBWR := Aside0.mk hbw
            clear hbw
            gi_wp2_with (first
              | (refine ⟨trivial, ?_⟩
                 gi_at_call 33
                 refine (callsIn_round HBWR.out).mono ?_
                 rintro e w8 ⟨v8, rfl, ho8, hb8'⟩
                 obtain ⟨A8, c8, rfl, hr8, hc8, hn8, _⟩ := own_form ho8
                 have hob8 := (hb8'.block _ (blk_lt hM.ob)).trans hM.ob
                 have c88 : w8.cell? ⟨q + 1, 0, none⟩ = some (.slice oA ol oc) := (blk_cell hob8 0).trans rfl
                 have hout8 := own_below hM.out hb8'
                 have hfr := framed_c (w := w8) (B := q + 5) (by have := hb8'.size; have := hM.sz; omega) (by rw [← HOL.out] at hout8; exact hout8) hr8 hn8 hc8 hbyt (by have := blk_le HOK.out j; unfold blkF at this; omega) (by rw [HOL.out]; omega)
                 rw [HOL.out] at hfr
                 have HFR := Aside0.mk hfr
                 clear hfr)
              | (refine ⟨trivial, ?_⟩
                 gi_at_call 34
                 refine (callsIn_round HFR.out).mono ?_
                 rintro e w9 ⟨v9, rfl, ho9, hg9, hat9⟩
                 have hob9 := box_grown hob8 hout8 hg9
                 have c99 : w9.cell? ⟨q + 1, 0, none⟩ = some (.slice oA ol oc) := (blk_cell hob9 0).trans rfl
                 have f99 : w9.frozen? ⟨q + 1, 0, none⟩ = false := blk_frozen hob9 0
                 have hcl := hM.close hb8' ho9 hg9 hat9
                 obtain ⟨A9, c9, rfl, _⟩ := own_form ho9)
              | fail)
            have hlj : (List.range j ++ [j]).length = j + 1 := by simp
            rw [List.length_append] at hcl
            refine ⟨hcl.1, hcl.2.1, ?_⟩
            show TwI w q F g kas (List.range j ++ [j]).length _
            rw [hlj]
            exact hcl.2.2
  case done =>
    rintro D xs W hD ⟨j, rfl, hj, hj'⟩ hI hK
    rw [List.length_range] at hI
    obtain rfl : j = nprt kas.length := by unfold nprt; omega
    obtain ⟨ov, iv, ps, h1, h2, h3, h4, h5, h6⟩ := hI.out
    have hidx := idx_ok HOK.out (n := nprt kas.length) (fun i hi => by unfold nprt at hi; omega)
    have hidl := idx_le HOK.out (n := nprt kas.length) (fun i hi => by unfold nprt at hi; omega)
    have hnp : nprt kas.length ≤ 5 := by unfold nprt; omega
    have hbl := blks_le HOK.out (nprt kas.length)
    have hall : kas.take (16 * nprt kas.length) = kas := List.take_of_length_le hj
    have hfl := hI.fl
    rw [hall] at hfl
    have HI := Aside0.mk hI
    have HIDX := Aside0.mk hidx
    clear hI hidx hall hj hj'
    obtain ⟨n, hn⟩ : ∃ n, nprt kas.length = n := ⟨_, rfl⟩
    rw [hn] at h2 h5 hidl hnp hbl HI HIDX
    have HN := Aside0.mk hn
    clear hn
    have hBw := HI.out.below
    have hsz := HI.out.sz
    have hqw := HI.out.qw
    have hps : ps.length ≤ 5 := by have := congrArg List.length h5; simp [idxF] at this; omega
    have hrow : ∃ R', iv = .slice R' ps.length (match iv with | .slice _ _ c => c | _ => 0) ∧ PRow W R' ps := by
      obtain ⟨R', c', rfl, hc'⟩ := row_slice h4
      refine ⟨R', rfl, PRow.mk (fun jj hjj => ?_) (fun p hp => (h6 p hp).1.rd hBw)⟩
      obtain ⟨g', rfl, _, _⟩ := hc' (jj * 2) (by rw [h4.1]; omega)
      exact ⟨g', rfl, prow_cells h4 jj hjj⟩
    obtain ⟨R', hiv, hrow⟩ := hrow
    obtain ⟨ic, rfl⟩ : ∃ ic, iv = .slice R' ps.length ic := ⟨_, hiv⟩
    clear hiv
    have hkk : ps.map Pr.k = (idxF kas n).map Prod.fst := by
      have := congrArg (List.map Prod.fst) h5
      simpa [Function.comp_def, Pr.kv] using this
    have hbw := bwrow_c (w := W) (c := ic) hrow (fun p hp => by
      have h1 : p.kv ∈ idxF kas n := by rw [← h5]; exact List.mem_map.2 ⟨p, hp, rfl⟩
      exact ⟨(HIDX.out.k _ h1).2.2, (HIDX.out.v _ h1).2.2⟩) (by omega) (by
      rw [hkk]
      exact ⟨fun k hk => by obtain ⟨x, hx, rfl⟩ := List.mem_map.1 hk; exact (HIDX.out.k x hx).1, HIDX.out.s⟩) (by rw [h5]; omega)
    rw [h5] at hbw
    obtain ⟨oA, oc, rfl, hor, hocc, hoc0, hob⟩ := own_form h2
    have c78 : W.cell? ⟨q + 1, 0, none⟩ = some (.slice oA (allF (blksF kas n)).length oc) := (blk_cell h1 0).trans rfl
    have c70 : W.cell? ⟨q + 1 + 1, 0, none⟩ = some (.slice R' ps.length ic) := (blk_cell h3 0).trans rfl
    have hibyt : Byt (rowB 0 [] (idxF kas n)) := rowB_byt _ _ _ fun x hx => ⟨(HIDX.out.k x hx).1, (HIDX.out.v x hx).1⟩
    have HBW := Aside0.mk hbw
    have H1 := Aside0.mk h1
    have H2 := Aside0.mk h2
    have HFL := Aside0.mk hfl
    have hb8 := HI.out.b8
    generalize hOL : (allF (blksF kas n)).length = ol at *
    have HOL := Aside0.mk hOL
    clear hbw h1 h2 h3 h4 h5 h6 hkk hrow hor hocc hoc0 hob hfl hOL
    obtain ⟨l2, hl2⟩ : ∃ l2, l2 = allF (blksF kas n) ++ frameF (rowB 0 [] (idxF kas n)) := ⟨_, rfl⟩
    obtain ⟨fb, hfb⟩ : ∃ fb, fb = (6 : Int) :: fltF kas := ⟨_, rfl⟩
    obtain ⟨l3, hl3⟩ : ∃ l3, l3 = l2 ++ frameF fb := ⟨_, rfl⟩
    obtain ⟨l4, hl4⟩ : ∃ l4, l4 = l3 ++ frameF (numb kas.length 8 ++ numb ol 8) := ⟨_, rfl⟩
    have e4 : l4 = tableF kas := by
      unfold tableF framesF
      rw [HN.out, HOL.out, hl4, hl3, hl2, hfb, allF_app, allF_cons, allF_cons, allF_cons]
      simp [allF]
    have hfbl : fb.length = dgF kas.length + 1 := by rw [hfb]; simp [fltF, bloF_len]
    have hfbb : Byt fb := by
      rw [hfb]
      intro x hx
      rcases List.mem_cons.1 hx with rfl | hx
      · omega
      · exact bloF_byt _ _ (fun y hy => by rw [List.mem_replicate] at hy; rw [hy.2]; omega) x hx
    have hl2l : l2.length ≤ 100000 := by rw [hl2, List.length_append, frameF_len, HOL.out]; omega
    have hdg : dgF kas.length ≤ 8192 := by unfold dgF; omega
    have hl3l : l3.length ≤ 200000 := by rw [hl3, List.length_append, frameF_len, hfbl]; omega
    have HL2 := Aside0.mk hl2
    have HL3 := Aside0.mk hl3
    have HL4 := Aside0.mk hl4
    have HE4 := Aside0.mk e4
    have HFB := Aside0.mk hfb
    have HFBL := Aside0.mk hfbl
    clear hl2 hl3 hl4 e4 hfb hfbl
    gi_wp2_with (first
      | (refine ⟨trivial, ?_⟩
         gi_at_call 33
         refine (callsIn_wide.2 HBW.out).mono ?_
         rintro e w8 ⟨v8, rfl, ho8, hb8'⟩
         obtain ⟨A8, c8, rfl, hr8, hc8, hn8, _⟩ := own_form ho8
         have hob8 := (hb8'.block _ (blk_lt H1.out)).trans H1.out
         have c88 : w8.cell? ⟨q + 1, 0, none⟩ = some (.slice oA ol oc) := (blk_cell hob8 0).trans rfl
         have hout8 := own_below H2.out hb8'
         have hfr := framed_c (w := w8) (B := q + 5) (by have := hb8'.size; omega) (by rw [← HOL.out] at hout8; exact hout8) hr8 hn8 hc8 hibyt (by omega) (by rw [HOL.out]; omega)
         rw [HOL.out, ← HL2.out] at hfr
         have HFR := Aside0.mk hfr
         have ko8 := ko_below hb8'
         have hB8 : Below w.heap.size w w8 := hBw.trans (hb8'.mono hBw.size)
         clear hfr)
      | (refine ⟨trivial, ?_⟩
         gi_at_call 34
         refine (callsIn_wide.2 HFR3.out).mono ?_
         rintro e w16 ⟨v16, rfl, ho16, hg16, hat16⟩
         have ko16 := ko15.trans (ko_own hout15 hg16)
         have hB16 : Below w.heap.size w w16 := hB15.grown hg16 hB15.size (fun k hk => by have := (hout15.lt k hk).1; omega))
      | (refine ⟨trivial, ?_⟩
         gi_at_call 34
         refine (callsIn_wide.2 HFR2.out).mono ?_
         rintro e w12 ⟨v12, rfl, ho12, hg12, hat12⟩
         have hob12 := box_grown hob11 hout11 hg12
         have k12 : w12.cell? ⟨q + 1, 0, none⟩ = some (.slice A9 l2.length c9) := (blk_cell hob12 0).trans rfl
         have f12 : w12.frozen? ⟨q + 1, 0, none⟩ = false := blk_frozen hob12 0
         obtain ⟨A12, c12', rfl, _⟩ := own_form ho12
         have ko12 := ko11.trans (ko_own hout11 hg12)
         have hB12 : Below w.heap.size w w12 := hB11.grown hg12 hB11.size (fun k hk => by have := (hout11.lt k hk).1; omega)
         have hob13 := blk_put hob12 0 (.slice A12 l3.length c12') rfl
         have ho13 := own_set (i := 0) (u := (.slice A12 l3.length c12')) hob12 ho12
         have ko13 := ko12.trans (KeepsOthers.setCell w12 ⟨q + 1, 0, none⟩ (.slice A12 l3.length c12'))
         have hB13 := hB12.setCell (p := ⟨q + 1, 0, none⟩) (by simp; omega) (.slice A12 l3.length c12')
         have k13 : (w12.setCell ⟨q + 1, 0, none⟩ (.slice A12 l3.length c12')).cell? ⟨q + 1, 0, none⟩ = some (.slice A12 l3.length c12') := (blk_cell hob13 0).trans rfl
         have hs13 : q + 5 ≤ (w12.setCell ⟨q + 1, 0, none⟩ (.slice A12 l3.length c12')).heap.size := by have h1 := hg12.size; have h2 := hb11.size; simp [World.setCell]; omega
         clear HFR2)
      | (refine ⟨trivial, ?_⟩
         gi_at_call 34
         refine (callsIn_wide.2 HFR.out).mono ?_
         rintro e w9 ⟨v9, rfl, ho9, hg9, hat9⟩
         have hob9 := box_grown hob8 hout8 hg9
         have c99 : w9.cell? ⟨q + 1, 0, none⟩ = some (.slice oA ol oc) := (blk_cell hob9 0).trans rfl
         have f99 : w9.frozen? ⟨q + 1, 0, none⟩ = false := blk_frozen hob9 0
         have hgo : (Value.slice oA ol oc).ownBlock ≠ some g := fun e => (by have := (hout8.lt g e).1; have := HI.out.Fq; omega)
         have hfl8 := HFL.out.below hb8'
         have hfl9 := hfl8.move (box_grown hfl8.fb hout8 hg9 |>.trans hfl8.fb.symm) (hg9.block g (blk_lt hfl8.gb) (fun e => hgo e.symm))
         have hb89 := box_grown ((hb8'.block _ (blk_lt hb8)).trans hb8) hout8 hg9
         have ko9 := ko8.trans (ko_own hout8 hg9)
         have hB9 : Below w.heap.size w w9 := hB8.grown hg9 hB8.size (fun k hk => by have := (hout8.lt k hk).1; omega)
         obtain ⟨A9, c9, rfl, _⟩ := own_form ho9
         have hob10 := blk_put hob9 0 (.slice A9 l2.length c9) rfl
         have ho10 := own_set (i := 0) (u := (.slice A9 l2.length c9)) hob9 ho9
         have hfl10 : FlAt (w9.setCell ⟨q + 1, 0, none⟩ (.slice A9 l2.length c9)) w.heap.size F g 6 (bloF (List.replicate (dgF kas.length) 0) (kas.map Prod.fst)) := hfl9.move (Below.heap_setCell _ _ _ _ (by have := HI.out.Fq; simp only; omega)) (Below.heap_setCell _ _ _ _ (by have := HI.out.Fq; simp only; omega))
         have hb810 : (w9.setCell ⟨q + 1, 0, none⟩ (.slice A9 l2.length c9)).heap[q]? = some (.cells #[.pointer (some ⟨F, 0, none⟩)] 65 (0, 0)) := (Below.heap_setCell _ _ _ _ (by simp)).trans hb89
         have ko10 := ko9.trans (KeepsOthers.setCell w9 ⟨q + 1, 0, none⟩ (.slice A9 l2.length c9))
         have hB10 := hB9.setCell (p := ⟨q + 1, 0, none⟩) (by simp; omega) (.slice A9 l2.length c9)
         have c10 : (w9.setCell ⟨q + 1, 0, none⟩ (.slice A9 l2.length c9)).cell? ⟨q, 0, none⟩ = some (.pointer (some ⟨F, 0, none⟩)) := (blk_cell hb810 0).trans rfl
         have hs10 : q + 5 ≤ (w9.setCell ⟨q + 1, 0, none⟩ (.slice A9 l2.length c9)).heap.size := by have := hg9.size; have := hb8'.size; simp [World.setCell]; omega
         have hfw := bwrite_c hfl10 (by omega) (by omega) (by rw [bloF_len, List.length_replicate]; exact hdg)
         rw [show (((6 : Nat) : Int) :: bloF (List.replicate (dgF kas.length) 0) (kas.map Prod.fst)) = fb from HFB.out.symm] at hfw
         have HFW := Aside0.mk hfw
         clear hfw HFR)
      | (refine ⟨trivial, ?_⟩
         gi_at_call 35
         refine (callsIn_wide.2 HFW.out).mono ?_
         rintro e w11 ⟨v11, rfl, ho11, hb11⟩
         obtain ⟨A11, c11, rfl, hr11, hc11, hn11, _⟩ := own_form ho11
         have hob11 := (hb11.block _ (blk_lt hob10)).trans hob10
         have c11' : w11.cell? ⟨q + 1, 0, none⟩ = some (.slice A9 l2.length c9) := (blk_cell hob11 0).trans rfl
         have hout11 := own_below ho10 hb11
         have ko11 := ko10.trans (ko_below hb11)
         have hB11 : Below w.heap.size w w11 := hB10.trans (hb11.mono hB10.size)
         have hfr2 := framed_c (w := w11) (B := q + 5) (by have := hb11.size; omega) hout11 hr11 hn11 hc11 hfbb (by rw [HFBL.out]; omega) (by omega)
         rw [← HL3.out] at hfr2
         have HFR2 := Aside0.mk hfr2
         clear hfr2)
      | fail)
    have h8a := eight_c (w := (w12.setCell ⟨q + 1, 0, none⟩ (.slice A12 l3.length c12')).drew) (B := (w12.setCell ⟨q + 1, 0, none⟩ (.slice A12 l3.length c12')).heap.size) (v := .slice none 0 0) (l := []) (u := kas.length) (by omega) (Nat.le_refl _) (nil_own _ _) (by simp)
    rw [List.nil_append] at h8a
    have HA := Aside0.mk h8a
    have HO13 := Aside0.mk ho13
    have KO13 := Aside0.mk ko13
    have HB13 := Aside0.mk hB13
    have HOB13 := Aside0.mk hob13
    clear h8a ho13 ko13 hB13 hob13
    generalize hw13 : (w12.setCell ⟨q + 1, 0, none⟩ (.slice A12 l3.length c12')) = w13 at *
    have HW13 := Aside0.mk hw13
    clear hw13
    refine wpIn_mono ?_ NoPanic.imp
    gi_region_with_o (first
      | (refine ⟨trivial, ?_⟩
         gi_at_call 32
         refine (callsIn_wide.2 HBB.out).mono ?_
         rintro e w15 ⟨v15, rfl, ho15, hg15, hat15⟩
         have hb15 : Below w13.heap.size w13 w15 := AppTo.below (r := []) hg15 hb14 ho14 hb14.size
         have k15 : w15.cell? ⟨q + 1, 0, none⟩ = some (.slice A12 l3.length c12') := cell_below hb15 k13
         obtain ⟨A15, c15, rfl, hr15, hc15, hn15, _⟩ := own_form ho15
         have hout15 := own_below HO13.out hb15
         have ko15 := KO13.out.trans (ko_below hb15)
         have hB15 : Below w.heap.size w w15 := HB13.out.trans (hb15.mono HB13.out.size)
         have hfr3 := framed_c (w := w15) (B := q + 5) (by have := hb15.size; omega) hout15 hr15 hn15 hc15 (byt_app (numb_byt _ _) (numb_byt _ _)) (by simp [numb_length]) (by omega)
         rw [← HL4.out] at hfr3
         have HFR3 := Aside0.mk hfr3
         clear hfr3)
      | (refine ⟨trivial, ?_⟩
         gi_at_call 32
         refine (callsIn_wide.2 HA.out).mono ?_
         rintro e w14 ⟨v14, rfl, ho14, hg14, hat14⟩
         have hb14 : Below w13.heap.size w13 w14 := (below_drew (Below.refl w13.heap.size w13)).trans ((Below.refl w13.drew.heap.size w13.drew).grown hg14 (Nat.le_refl _) (fun k hk => by simp [Value.ownBlock] at hk))
         have k14 : w14.cell? ⟨q + 1, 0, none⟩ = some (.slice A12 l3.length c12') := cell_below hb14 k13
         have h8b := eight_c (w := w14) (B := w13.heap.size) (u := ol) (by omega) hb14.size ho14 (by rw [numb_length]; omega)
         have HBB := Aside0.mk h8b
         clear h8b HA)
      | (refine ⟨trivial, ?_⟩
         gi_at_call 34
         refine (callsIn_wide.2 HFR3.out).mono ?_
         rintro e w16 ⟨v16, rfl, ho16, hg16, hat16⟩
         have ko16 := ko15.trans (ko_own hout15 hg16)
         have hB16 : Below w.heap.size w w16 := hB15.grown hg16 hB15.size (fun k hk => by have := (hout15.lt k hk).1; omega))
      | fail)
    all_goals
      refine NoPanic.normal ?_
      gi_wp2
      have hK16 := ko16.same D _ hK rfl
      refine ⟨by simp, .inl ⟨_, _, rfl, run_takeDeferred hK16, ?_⟩⟩
      have hgr : w16.grownBy (w16.putObj D (.deferred none)) (some D) := ⟨rfl, rfl, rfl, by simp, fun k _ hk => World.putObj_heap_other (fun e => hk (by rw [e]))⟩
      rw [HE4.out] at ho16
      exact ⟨_, results_tmp2 rfl _ _ _, v16, rfl, own_low (own_put hK16 rfl ho16) (by omega), hB16.grown hgr hB16.size (fun k e => by cases e; omega)⟩
end Go.Proofs.Ythabkdbhjioalaa.Top
namespace Go.Proofs.Ythabkdbhjioalaa.Top
set_option linter.unusedSimpArgs false
set_option linter.unusedVariables false
open Go.RowKit Go.Proofs.YthabkdbhjioalaaW.PrintWords Go.Proofs.YthabkdbhjioalaaW.PrintLast Go.Proofs.YthabkdbhjioalaaW.PrintMore Go.Proofs.Ythabkdbhjioalaa.Plain Go.Proofs.Ythabkdbhjioalaa.Fns
/-- Bytes and pairs are kept. -/
def Kpu (A B : World) : Prop := A.heap.size ≤ B.heap.size ∧ ∀ (k : Nat) (cs : Array Value) (e : TypeId), A.heap[k]? = some (.cells cs e (0, 0)) → (e = 5 ∨ e = 75) → B.heap[k]? = A.heap[k]?
theorem Kpu.trans {A B C : World} (h : Kpu A B) (k : Kpu B C) : Kpu A C := ⟨Nat.le_trans h.1 k.1, fun b cs e hb he => (k.2 b cs e ((h.2 b cs e hb he).trans hb) he).trans (h.2 b cs e hb he)⟩
theorem Kpu.of_below {A B : World} (h : Below A.heap.size A B) : Kpu A B := ⟨h.size, fun b cs e hb _ => h.block b (blk_lt hb)⟩
theorem Kpu.grow {W W3 : World} {o : Obj} {base n sz : Nat} {v : Value} {xs : List Value} (hown : W.ownsRow base 36 sz v n xs) (hg : (W.alloc o).grownBy W3 v.ownBlock) : Kpu W W3 :=
  ⟨by have := hg.size; rw [World.size_alloc] at this; omega, fun k cs e hk he => (box_agrown hk hown hg (by rcases he with rfl | rfl <;> decide)).trans hk.symm⟩
theorem Kpu.own {A B : World} {base n sz : Nat} {e : TypeId} {v : Value} {xs : List Value} (h : Kpu A B) (he : e = 5 ∨ e = 75) (ho : A.ownsRow base e sz v n xs) : B.ownsRow base e sz v n xs := own_move ho fun k hk => by
  obtain ⟨cs, hc⟩ := own_typed ho k hk
  exact h.2 k cs _ hc he
/-- An entry whose key is an own row. -/
def EOwn (n : Nat) (W : World) (x : Ent) : Prop := EntOk n W x ∧ x.k.length ≤ x.c ∧ ∃ a, x.A = some a
theorem EOwn.kpu {n : Nat} {A B : World} {x : Ent} (h : EOwn n A x) (hk : Kpu A B) : EOwn n B x := ⟨hk.own (.inl rfl) h.1, h.2⟩
theorem EOwn.below {n : Nat} {A B : World} {x : Ent} (h : EOwn n A x) (hb : Below A.heap.size A B) : EOwn n B x := ⟨own_below h.1 hb, h.2⟩
theorem EOwn.rd {n : Nat} {W : World} {x : Ent} (h : EOwn n W x) : x.rd W := ⟨own_read h.1, h.2.1, h.2.2⟩
set_option maxRecDepth 100000 in
set_option maxHeartbeats 4000000 in
theorem entries_c {w : World} {a : Addr} {c : Nat} {es : Kas} (hr : RdB w (some a) (rowB 0 [] (kvsF es))) (hty : ∃ cs, w.heap[a.block]? = some (.cells cs 5 (0, 0))) (hc : (rowB 0 [] (kvsF es)).length ≤ c) (hok : EOk es) (hL : (rowB 0 [] (kvsF es)).length ≤ 1000000) :
    Calls Try.prog 37 #[.slice (some a) (rowB 0 [] (kvsF es)).length c] w fun e w' => ∃ (v : Value) (xs : List Ent), e = .returned (.tuple #[v, .bool true]) ∧ w'.ownsRow w.heap.size 36 7 v xs.length (xs.flatMap Ent.cells) ∧ xs.map Ent.ka = es ∧ (∀ x ∈ xs, EOwn w.heap.size w' x) ∧ Below w.heap.size w w' := by
  have hrd := blkread_c hr hty hc hok.kv hL
  have HOK := Aside0.mk hok
  have hn := hok.n
  clear hr hty hc hok hL
  go_enter Try.func37, Try.ntmps37
  go_wp2_with (first
    | (go_at_call 38
       refine hrd.mono ?_
       rintro e w2 ⟨v2, prs, rfl, ho2, hkv, hp2, hb2⟩
       obtain ⟨R2, rc, rfl, hrow2⟩ := row_slice ho2)
    | fail)
  clear hrd
  have hpl : prs.length = es.length := by have := congrArg List.length hkv; simpa [kvsF] using this
  have hs2 := hb2.size
  have HO2 := Aside0.mk ho2
  have HKV := Aside0.mk hkv
  have HP2 := Aside0.mk hp2
  have HROW := Aside0.mk hrow2
  have HPL := Aside0.mk hpl
  have hn' : prs.length ≤ 4096 := by omega
  clear ho2 hkv hp2 hrow2 hpl
  go_loopw [6, 20] (fun o i wr => ∃ (j : Nat) (xs : List Ent), j ≤ prs.length ∧ i = .int .i64 j ∧ Aside0 (wr.ownsRow w.heap.size 36 7 o xs.length (xs.flatMap Ent.cells)) ∧ Aside0 (xs.map Ent.ka = es.take j) ∧ Aside0 (∀ x ∈ xs, EOwn w.heap.size wr x) ∧ Aside0 (Kpu w2 wr) ∧ Below w.heap.size w wr) (fun _ i _ => prs.length - (intOf i).toNat)
  case atStart => exact ⟨0, [], by omega, rfl, ⟨World.ownsRow_nil _ _ _ _⟩, ⟨rfl⟩, ⟨fun x hx => by cases hx⟩, ⟨Kpu.of_below (Below.refl _ _)⟩, hb2⟩
  case round =>
    obtain ⟨j, xs, hj, rfl, HX, HKA, HE, HK, hB⟩ := hrel
    by_cases hlt : j < prs.length
    · have t1 : decide ((j : Int) < (prs.length : Int)) = true := decide_eq_true (by omega)
      have t2 : decide (j < prs.length) = true := decide_eq_true hlt
      obtain ⟨rb, rfl, _, _⟩ := HROW.out (j * 2) (by rw [HO2.out.1]; omega)
      have hor := HK.out.own (.inr rfl) HO2.out
      obtain ⟨x0, x1⟩ := prow_cells hor j hlt
      have hpo := (HP2.out _ (List.getElem_mem hlt))
      have hje : j < es.length := by rw [← HPL.out]; exact hlt
      have hkvj : prs[j].kv = (es[j].1, aggB es[j].2) := by
        have h1 : (prs.map Pr.kv)[j]? = (kvsF es)[j]? := by rw [HKV.out]
        rw [List.getElem?_map, List.getElem?_eq_getElem hlt, kvsF, List.getElem?_map, List.getElem?_eq_getElem hje] at h1
        simpa using h1
      have hgd := HOK.out.a _ (List.getElem_mem hje)
      have htk : es.take (j + 1) = es.take j ++ [es[j]] := by rw [List.take_add_one, List.getElem?_eq_getElem hje]; rfl
      have HTK := Aside0.mk htk
      generalize es[j] = y at *
      obtain ⟨yk, ya⟩ := y
      generalize prs[j] = p at *
      obtain ⟨pA, pk, pc, pB, pv, pd⟩ := p
      simp only [Pr.kv, Prod.mk.injEq] at hkvj
      obtain ⟨rfl, rfl⟩ := hkvj
      simp only [aggB_len] at x0 x1
      have hkown := hpo.k
      have hvown := HK.out.own (.inl rfl) hpo.v
      simp only at hkown hvown
      have hB3 := (Below.refl wr.heap.size wr).alloc (Nat.le_refl _) (.cells #[.slice (some pA) pk.length pc, .slice (some pB) 41 pd] 75)
      have hN3 := al_new (W := wr) (o := (.cells #[.slice (some pA) pk.length pc, .slice (some pB) 41 pd] 75)) (k := wr.heap.size) rfl
      have har := aread_c (w := wr.alloc (.cells #[.slice (some pA) pk.length pc, .slice (some pB) 41 pd] 75)) (c := pd) hgd ((own_read hvown).below hB3) (by have := hpo.vc; simp only [aggB_len] at this; exact this)
      simp only at har
      obtain ⟨ac, ao, ah, al, an, ax⟩ := ya
      unfold Ag.v at har
      have HAR := Aside0.mk har
      have HPO := Aside0.mk hpo
      have hxl : xs.length ≤ 4096 := by have := congrArg List.length HKA.out; simp at this; omega
      obtain ⟨i0, hi, hzz⟩ := Option.map_eq_some_iff.1 info7
      simp only [Prod.mk.injEq] at hzz
      obtain ⟨hz0, hz1, hz2⟩ := hzz
      clear har hpo hgd hkown hvown hor htk
      go_wp2_with (first
        | (go_at_call 59
           refine HAR.out.mono ?_
           rintro e w5 ⟨rfl, hb5⟩
           have hN5 := (hb5.block _ (blk_lt hN3)).trans hN3
           have hB35 : Below wr.heap.size wr w5 := hB3.trans (hb5.mono hB3.size)
           have hB6 := (Below.refl w5.heap.size w5).alloc (Nat.le_refl _) (.cells #[.int .u64 ac, .bool ao, .int .i64 ah, .int .u64 al, .int .i64 an, .int .i64 ax] 34)
           have hN6 := al_old hN5 (.cells #[.int .u64 ac, .bool ao, .int .i64 ah, .int .u64 al, .int .i64 an, .int .i64 ax] 34)
           have hA6 := al_new (W := w5) (o := (.cells #[.int .u64 ac, .bool ao, .int .i64 ah, .int .u64 al, .int .i64 an, .int .i64 ax] 34)) (k := w5.heap.size) rfl
           have z0 : (w5.alloc (.cells #[.int .u64 ac, .bool ao, .int .i64 ah, .int .u64 al, .int .i64 an, .int .i64 ax] 34)).cell? ⟨wr.heap.size, 0, none⟩ = some (.slice (some pA) pk.length pc) := (blk_cell hN6 0).trans rfl
           have y0 : (w5.alloc (.cells #[.int .u64 ac, .bool ao, .int .i64 ah, .int .u64 al, .int .i64 an, .int .i64 ax] 34)).cell? ⟨w5.heap.size, 0, none⟩ = some (.int .u64 ac) := (blk_cell hA6 0).trans rfl
           have y1 : (w5.alloc (.cells #[.int .u64 ac, .bool ao, .int .i64 ah, .int .u64 al, .int .i64 an, .int .i64 ax] 34)).cell? ⟨w5.heap.size, 1, none⟩ = some (.bool ao) := (blk_cell hA6 1).trans rfl
           have y2 : (w5.alloc (.cells #[.int .u64 ac, .bool ao, .int .i64 ah, .int .u64 al, .int .i64 an, .int .i64 ax] 34)).cell? ⟨w5.heap.size, 2, none⟩ = some (.int .i64 ah) := (blk_cell hA6 2).trans rfl
           have y3 : (w5.alloc (.cells #[.int .u64 ac, .bool ao, .int .i64 ah, .int .u64 al, .int .i64 an, .int .i64 ax] 34)).cell? ⟨w5.heap.size, 3, none⟩ = some (.int .u64 al) := (blk_cell hA6 3).trans rfl
           have y4 : (w5.alloc (.cells #[.int .u64 ac, .bool ao, .int .i64 ah, .int .u64 al, .int .i64 an, .int .i64 ax] 34)).cell? ⟨w5.heap.size, 4, none⟩ = some (.int .i64 an) := (blk_cell hA6 4).trans rfl
           have y5 : (w5.alloc (.cells #[.int .u64 ac, .bool ao, .int .i64 ah, .int .u64 al, .int .i64 an, .int .i64 ax] 34)).cell? ⟨w5.heap.size, 5, none⟩ = some (.int .i64 ax) := (blk_cell hA6 5).trans rfl
           have hBw6 : Below wr.heap.size wr (w5.alloc (.cells #[.int .u64 ac, .bool ao, .int .i64 ah, .int .u64 al, .int .i64 an, .int .i64 ax] 34)) := hB35.trans (hB6.mono hB35.size)
           have hX6 := own_below HX.out hBw6
           have HX6 := Aside0.mk hX6
           clear hX6)
        | (at_builtin
           refine wpList_append_own_at _ rfl _ _ 22 rfl w.heap.size 36 i0 _ 7 72 Try.underlying22 hi hz0 hz1 hz2 rfl (by decide) _ _ _ rfl (HX6.out.alloc _) ⟨(w5.alloc (.cells #[.int .u64 ac, .bool ao, .int .i64 ah, .int .u64 al, .int .i64 an, .int .i64 ax] 34)).heap.size, 0, none⟩ 1 1 (Ent.cells ⟨some pA, pc, pk, ⟨ac, ao, ah, al, an, ax⟩⟩) (by simp [World.size_alloc]; rfl) rfl (cells_new (w5.alloc (.cells #[.int .u64 ac, .bool ao, .int .i64 ah, .int .u64 al, .int .i64 an, .int .i64 ax] 34)) ⟨some pA, pc, pk, ⟨ac, ao, ah, al, an, ax⟩⟩) (cells_one _) (by simp only [maxLen]; omega) (by omega) (by have := hB.size; have := hBw6.size; simp only [World.size_alloc] at *; omega) ?_
           intro v7 w7 hown7 hg7 hnil7 hat7)
        | fail)
      have hk16 : Kpu wr (w5.alloc (.cells #[.int .u64 ac, .bool ao, .int .i64 ah, .int .u64 al, .int .i64 an, .int .i64 ax] 34)) := Kpu.of_below hBw6
      have hk67 := Kpu.grow HX6.out hg7
      have hK7 := (HK.out.trans hk16).trans hk67
      have hBB : Below w.heap.size w (w5.alloc (.cells #[.int .u64 ac, .bool ao, .int .i64 ah, .int .u64 al, .int .i64 an, .int .i64 ax] 34)) := hB.trans (hBw6.mono hB.size)
      go_roundw
      case rel =>
        refine ⟨j + 1, xs ++ [⟨some pA, pc, pk, ⟨ac, ao, ah, al, an, ax⟩⟩], by omega, by go_num, ⟨?_⟩, ⟨?_⟩, ⟨fun x hx => ?_⟩, ⟨hK7⟩, ?_⟩
        · rw [List.length_append, List.flatMap_append]
          simpa using hown7
        · rw [List.map_append, HKA.out, HTK.out]
          rfl
        · rcases List.mem_append.1 hx with hx | hx
          · exact (HE.out x hx).kpu (hk16.trans hk67)
          · obtain rfl := List.mem_singleton.1 hx
            exact ⟨hK7.own (.inl rfl) HPO.out.k, HPO.out.kc, ⟨_, rfl⟩⟩
        · exact (hBB.alloc hBB.size _).grown hg7 (by have := hBB.size; simp [World.size_alloc] at this ⊢; omega) (fun k hk => (HX6.out.lt k hk).1)
      case measure => simp [intOf]; omega
    · obtain rfl : j = prs.length := by omega
      have t1 : decide ((prs.length : Int) < (prs.length : Int)) = false := decide_eq_false (by omega)
      have t2 : decide (prs.length < prs.length) = false := decide_eq_false hlt
      have htk : es.take prs.length = es := List.take_of_length_le (by rw [HPL.out]; exact Nat.le_refl _)
      have hka := HKA.out
      rw [htk] at hka
      have HKA2 := Aside0.mk hka
      clear hka htk
      go_wp2_with fail
      go_ret2
      exact ⟨_, xs, rfl, HX.out, HKA2.out, HE.out, hB⟩
end Go.Proofs.Ythabkdbhjioalaa.Top
