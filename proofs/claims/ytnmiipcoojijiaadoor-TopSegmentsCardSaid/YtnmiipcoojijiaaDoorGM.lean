/-
  What stands in the segments, call for call; conditions: those that each theorem states.
-/
import Derived.Test.YtnmiipcoojijiaaDoorGL
namespace Go.Proofs.YtnmiipcoojijiaaDoor.Top
set_option linter.unusedSimpArgs false
set_option linter.unusedVariables false
open Go.RowKit Go.Proofs.YtnmiipcoojijiaaDoorW.PrintWords Go.Proofs.YtnmiipcoojijiaaDoorW.PrintLast Go.Proofs.YtnmiipcoojijiaaDoorW.PrintMore Go.Proofs.YtnmiipcoojijiaaDoor.Plain Go.Proofs.YtnmiipcoojijiaaDoor.Fns
/-- The bytes of a list of records. -/
def segB (ps : List Pr) : List Int := allF (ps.map Pr.b)
theorem segB_nil : segB [] = [] := rfl
theorem segB_snoc (ps : List Pr) (p : Pr) : segB (ps ++ [p]) = segB ps ++ frameF p.b := by
  unfold segB
  rw [List.map_append, allF_app]
  show _ ++ allF [p.b] = _
  rw [allF_cons]
  simp [allF]
/-- At the head of a round: each segment is there, and synced whole. -/
structure SegI (N : Nat) (F : Fs) (rows : List (List Pr)) : Prop where
  lo : F.lo = N
  fb : F.fb = N + 2
  pd : F.pd = none
  om : F.om = F.dm
  no : ∀ n, rows.length < n → F.dm n = none
  seg : ∀ j (h : j < rows.length), ∃ b, F.dm (j + 1) = some b ∧ F.fd b = (segB rows[j], (segB rows[j]).length)
/-- Within a round: the last one is of the records that were added, synced or not. -/
structure SegJ (N : Nat) (F : Fs) (rows : List (List Pr)) (b : Nat) (ps : List Pr) : Prop where
  lo : F.lo = N
  fb : F.fb = N + 2
  pd : F.pd = none
  om : F.om = F.dm
  no : ∀ n, rows.length + 1 < n → F.dm n = none
  seg : ∀ j (h : j < rows.length), ∃ b', b' ≠ b ∧ F.dm (j + 1) = some b' ∧ F.fd b' = (segB rows[j], (segB rows[j]).length)
  dm : F.dm (rows.length + 1) = some b
  fd : F.fd b = (segB ps, 0)
/-- Ahead of a crash. -/
structure SegC (N : Nat) (F : Fs) (rows : List (List Pr)) : Prop where
  lo : F.lo = N
  fb : F.fb = N + 2
  pd : F.pd = none ∨ ∃ b, F.pd = some (rows.length + 1, b)
  seg : ∀ j (h : j < rows.length), ∃ b, F.om (j + 1) = some b ∧ (F.fd b).1 = segB rows[j] ∧ (j + 1 < rows.length → (F.fd b).2 = (segB rows[j]).length)
/-- Behind a crash. -/
structure SegD (N : Nat) (F : Fs) (rows : List (List Pr)) : Prop where
  lo : F.lo = N
  fb : F.fb = N + 2
  seg : ∀ j (h : j < rows.length), ∃ b t, F.dm (j + 1) = some b ∧ t ≤ (segB rows[j]).length ∧ (F.fd b).1 = (segB rows[j]).take t ∧ (j + 1 < rows.length → t = (segB rows[j]).length)
theorem SegI.fresh (N : Nat) (room : Int) : SegI N (fs0 N room) [] := ⟨rfl, rfl, rfl, rfl, fun _ _ => rfl, fun j h => absurd h (by simp)⟩
theorem SegI.fail {N : Nat} {F : Fs} {rows : List (List Pr)} (h : SegI N F rows) (x e : Int) (p : Bool) : SegI N { F with pl := p, af := x, er := e } rows := ⟨h.lo, h.fb, h.pd, h.om, h.no, h.seg⟩
/-- A start that went well. -/
theorem SegI.start {N : Nat} {F F' : Fs} {rows : List (List Pr)} {b : Nat} (h : SegI N F rows) (k : StaOk F F' (rows.length + 1) b) : SegJ N F' rows b [] where
  lo := k.lo.trans h.lo
  fb := k.fb.trans h.fb
  pd := k.pd
  om := by rw [k.om, k.dm, h.om]
  no := fun n hn => by
    rw [k.dm]
    unfold upd
    rw [if_neg (by omega)]
    exact h.no n (by omega)
  seg := fun j hj => by
    obtain ⟨b', h1, h2⟩ := h.seg j hj
    have hne : b' ≠ b := fun e => k.isn (.inl ⟨j + 1, by rw [← e]; exact h1⟩)
    refine ⟨b', hne, ?_, ?_⟩
    · rw [k.dm]
      unfold upd
      rw [if_neg (by omega)]
      exact h1
    · rw [k.fd]
      simp only [hne, if_false]
      exact h2
  dm := by rw [k.dm]; exact upd_same _ _ _
  fd := by rw [k.fd]; simp [segB_nil]
/-- A start that failed. -/
theorem SegI.bad {N : Nat} {F F' : Fs} {rows : List (List Pr)} (h : SegI N F rows) (k : StaBad F F' (rows.length + 1)) : SegC N F' rows where
  lo := k.lo.trans h.lo
  fb := k.fb.trans h.fb
  pd := k.pd
  seg := fun j hj => by
    obtain ⟨b, h1, h2⟩ := h.seg j hj
    have hf := k.fd b (.inl ⟨_, h1⟩)
    exact ⟨b, by rw [k.om, h.om]; exact h1, by rw [hf, h2], fun _ => by rw [hf, h2]⟩
/-- All rounds went well. -/
theorem SegI.crash {N : Nat} {F : Fs} {rows : List (List Pr)} (h : SegI N F rows) : SegC N F rows where
  lo := h.lo
  fb := h.fb
  pd := .inl h.pd
  seg := fun j hj => by
    obtain ⟨b, h1, h2⟩ := h.seg j hj
    exact ⟨b, by rw [h.om]; exact h1, by rw [h2], fun _ => by rw [h2]⟩
/-- An Add. -/
theorem SegJ.add {N : Nat} {F F' : Fs} {rows : List (List Pr)} {b : Nat} {ps : List Pr} {p : Pr} {g : Int} (h : SegJ N F rows b ps) (k : AppS F F' b (frameF p.b) g) : (g = 0 → SegJ N F' rows b (ps ++ [p])) ∧ (g ≠ 0 → SegJ N F' rows b ps) := by
  refine ⟨fun hg => ?_, fun hg => ?_⟩
  · refine ⟨k.lo.trans h.lo, k.fb.trans h.fb, k.pd.trans h.pd, by rw [k.om, k.dm, h.om], fun n hn => by rw [k.dm]; exact h.no n hn, fun j hj => ?_, by rw [k.dm]; exact h.dm, ?_⟩
    · obtain ⟨b', h1, h2, h3⟩ := h.seg j hj
      exact ⟨b', h1, by rw [k.dm]; exact h2, by rw [k.ok hg]; simp only [h1, if_false]; exact h3⟩
    · rw [k.ok hg, segB_snoc]
      simp [h.fd]
  · refine ⟨k.lo.trans h.lo, k.fb.trans h.fb, k.pd.trans h.pd, by rw [k.om, k.dm, h.om], fun n hn => by rw [k.dm]; exact h.no n hn, fun j hj => ?_, by rw [k.dm]; exact h.dm, ?_⟩
    · obtain ⟨b', h1, h2, h3⟩ := h.seg j hj
      exact ⟨b', h1, by rw [k.dm]; exact h2, by rw [k.no hg]; exact h3⟩
    · rw [k.no hg]
      exact h.fd
theorem SegJ.crash {N : Nat} {F : Fs} {rows : List (List Pr)} {b : Nat} {ps : List Pr} (h : SegJ N F rows b ps) : SegC N F (rows ++ [ps]) where
  lo := h.lo
  fb := h.fb
  pd := .inl h.pd
  seg := fun j hj => by
    rw [List.length_append, List.length_singleton] at hj ⊢
    by_cases hlt : j < rows.length
    · obtain ⟨b', h1, h2, h3⟩ := h.seg j hlt
      rw [List.getElem_append_left hlt]
      exact ⟨b', by rw [h.om]; exact h2, by rw [h3], fun _ => by rw [h3]⟩
    · obtain rfl : j = rows.length := by omega
      refine ⟨b, by rw [h.om]; exact h.dm, ?_, fun h => by omega⟩
      rw [h.fd]
      simp
/-- A Sync. -/
theorem SegJ.sync {N : Nat} {F : Fs} {rows : List (List Pr)} {b : Nat} {ps : List Pr} (h : SegJ N F rows b ps) : (F.pw = 0 → SegI N (F.syn b) (rows ++ [ps])) ∧ (F.pw ≠ 0 → SegC N (F.syn b) (rows ++ [ps])) := by
  refine ⟨fun hz => ?_, fun hz => ?_⟩
  · unfold Fs.syn
    rw [if_pos hz]
    refine ⟨h.lo, h.fb, h.pd, h.om, fun n hn => ?_, fun j hj => ?_⟩
    · rw [List.length_append, List.length_singleton] at hn
      exact h.no n hn
    · rw [List.length_append, List.length_singleton] at hj
      by_cases hlt : j < rows.length
      · obtain ⟨b', h1, h2, h3⟩ := h.seg j hlt
        rw [List.getElem_append_left hlt]
        refine ⟨b', h2, ?_⟩
        show (if b' = b then _ else F.fd b') = _
        rw [if_neg h1]
        exact h3
      · obtain rfl : j = rows.length := by omega
        refine ⟨b, h.dm, ?_⟩
        show (if b = b then ((F.fd b).1, (F.fd b).1.length) else F.fd b) = _
        rw [if_pos rfl, h.fd]
        simp
  · unfold Fs.syn
    rw [if_neg hz]
    exact (SegJ.crash (F := F.pln) ⟨h.lo, h.fb, h.pd, h.om, h.no, h.seg, h.dm, h.fd⟩)
theorem seto_ne {F : Fs} {k m n : Nat} (h : F.pd = none ∨ ∃ b, F.pd = some (m, b)) (hne : n ≠ m) : setO F k n = F.om n := by
  unfold setO
  rcases h with h | ⟨b, h⟩
  · rw [h]
  · rw [h]
    by_cases hk : k = 0
    · simp [hk]
    · simp only [hk, if_false]
      unfold upd
      rw [if_neg hne]
/-- The crash. -/
theorem SegC.crash {N k : Nat} {F F' : Fs} {rows : List (List Pr)} (h : SegC N F rows) (hs : CrashS F F' k) : SegD N F' rows where
  lo := hs.lo.trans h.lo
  fb := hs.fb.trans h.fb
  seg := fun j hj => by
    obtain ⟨b, h1, h2, h3⟩ := h.seg j hj
    have h4 : setO F k (j + 1) = some b := by rw [seto_ne h.pd (by omega)]; exact h1
    obtain ⟨t, c1, c2, c3, _, _⟩ := hs.fd _ _ h4
    rw [h2] at c2 c3
    exact ⟨b, t, by rw [hs.dm]; exact h4, c2, c3, fun hl => by have := h3 hl; omega⟩
/-- What is there of a segment, as Replay wants it. -/
theorem seg_front {N : Nat} {F : Fs} {rows : List (List Pr)} (h : SegD N F rows) {j : Nat} (hj : j < rows.length) (hok : ∀ p ∈ rows[j], p.ok) :
    ∃ (b k t : Nat) (qq d0 : List Int), F.dm (j + 1) = some b ∧ k ≤ rows[j].length ∧ (F.fd b).1 = allF ((rows[j].take k).map Pr.b) ++ qq ∧ qq = (frameF d0).take t ∧ t < d0.length + 8 ∧ d0.length ≤ 65535 ∧ (j + 1 < rows.length → k = rows[j].length) := by
  obtain ⟨b, t, h1, h2, h3, h4⟩ := h.seg j hj
  by_cases hl : j + 1 < rows.length
  · have ht := h4 hl
    refine ⟨b, rows[j].length, 0, [], [], h1, Nat.le_refl _, ?_, rfl, by simp, by simp, fun _ => rfl⟩
    rw [h3, ht, List.take_length, List.take_length, List.append_nil]
    rfl
  · obtain ⟨k, m, d0, f1, f2, f3, f4⟩ := front_parts (rows[j].map Pr.b) t
    refine ⟨b, k, m, _, d0, h1, by rw [List.length_map] at f1; exact f1, ?_, rfl, f3, ?_, fun h => absurd h hl⟩
    · rw [h3, List.map_take]
      exact f2
    · rcases f4 with rfl | hd
      · simp
      · obtain ⟨p, hp, rfl⟩ := List.mem_map.1 hd
        have := recB_len (hok p hp).1
        unfold Pr.b
        omega
/-- A row of records that came. -/
structure Rw where
  A : Option Addr
  b : Nat
  o : Nat
  c : Nat
  rs : List Rc
def Rw.v (x : Rw) : Value := .slice x.A x.rs.length x.c
structure RwIn (W : World) (x : Rw) : Prop where
  a : x.rs ≠ [] → x.A = some ⟨x.b, x.o, none⟩
  c0 : ∀ j (h : j < x.rs.length), W.cell? ⟨x.b, x.o + j * 2, none⟩ = some (.slice x.rs[j].R x.rs[j].xs.length x.rs[j].c)
  c1 : ∀ j (h : j < x.rs.length), W.cell? ⟨x.b, x.o + j * 2 + 1, none⟩ = some (.int .i64 x.rs[j].m)
  rd : ∀ r ∈ x.rs, r.rd W ∧ (-9223372036854775808 ≤ r.m ∧ r.m < 9223372036854775808)
structure LsIn (W : World) (A : Option Addr) (b o : Nat) (L : List Rw) : Prop where
  a : L ≠ [] → A = some ⟨b, o, none⟩
  c : ∀ j (h : j < L.length), W.cell? ⟨b, o + j, none⟩ = some (.slice L[j].A L[j].rs.length L[j].c)
  rd : ∀ x ∈ L, RwIn W x
theorem RwIn.below {W W1 : World} {x : Rw} (h : RwIn W x) (hb : Below W.heap.size W W1) : RwIn W1 x :=
  ⟨h.a, fun j hj => cell_below hb (h.c0 j hj), fun j hj => cell_below hb (h.c1 j hj), fun r hr => ⟨(h.rd r hr).1.below hb, (h.rd r hr).2⟩⟩
theorem LsIn.below {W W1 : World} {A : Option Addr} {b o : Nat} {L : List Rw} (h : LsIn W A b o L) (hb : Below W.heap.size W W1) : LsIn W1 A b o L :=
  ⟨h.a, fun j hj => cell_below hb (h.c j hj), fun x hx => (h.rd x hx).below hb⟩
/-- Records' growth leaves a file system as it was. -/
structure KeepR (N : Nat) (W W1 : World) : Prop where
  be : Below N W W1
  ty : ∀ (k : Nat) (cs : Array Value) (e : TypeId), W.heap[k]? = some (.cells cs e (0, 0)) → e ≠ 37 → e ≠ 33 → W1.heap[k]? = W.heap[k]?
  mp : ∀ (k : Nat) es c, W.heap[k]? = some (.map es c) → W1.heap[k]? = W.heap[k]?
theorem KeepR.grown {W W1 : World} {N n₀ n size : Nat} {e : TypeId} {v : Value} {xs : List Value} {o : Obj} (ho : W.ownsRow n₀ e size v n xs) (he : e = 37 ∨ e = 33) (hg : (W.alloc o).grownBy W1 v.ownBlock) (hN : N ≤ n₀) (hS : N ≤ W.heap.size) : KeepR N W W1 := by
  have key : ∀ k, k < W.heap.size → some k ≠ v.ownBlock → W1.heap[k]? = W.heap[k]? := fun k hk hne =>
    (hg.block k (by rw [World.size_alloc]; omega) hne).trans (Below.heap_alloc _ _ _ hk)
  refine ⟨(((Below.refl _ W).alloc (Nat.le_refl _) o).mono hS).grown hg (by rw [World.size_alloc]; omega) (fun k hk => Nat.le_trans hN (ho.lt k hk).1), fun k cs e' hk h1 h2 => key k (blk_lt hk) (fun e0 => ?_), fun k es c hk => key k (blk_lt hk) (fun e0 => ?_)⟩
  · obtain ⟨c2, hc⟩ := own_typed ho k e0.symm
    rw [hk] at hc
    simp only [Option.some.injEq, Obj.cells.injEq] at hc
    rcases he with he | he
    · exact h1 (hc.2.1.trans he)
    · exact h2 (hc.2.1.trans he)
  · obtain ⟨c2, hc⟩ := own_typed ho k e0.symm
    rw [hk] at hc
    cases hc
theorem FsAt.keepR {F : Fs} {q : Nat} {W W1 : World} (h : FsAt F q W) (hk : KeepR F.lo W W1) : FsAt F q W1 := by
  obtain ⟨vp, h1, h2⟩ := h.box
  obtain ⟨e1, c1, m1⟩ := h.dmp.isMap
  obtain ⟨e2, c2, m2⟩ := h.omp.isMap
  refine ⟨⟨vp, ⟨(hk.ty _ _ _ h1.b (by decide) (by decide)).trans h1.b⟩, ?_⟩, h.dmp.move (hk.mp _ _ _ m1), h.omp.move (hk.mp _ _ _ m2), h.ne, fun b hI => ?_, h.pdn, h.hr, h.ha, h.l1, h.l2, h.l3, h.l4⟩
  · cases hp : F.pd with
    | none => rw [hp] at h2; exact h2
    | some p =>
      obtain ⟨n, b⟩ := p
      rw [hp] at h2
      obtain ⟨g, c, h3, h4, ⟨cs, h5⟩, h6, h7, h8⟩ := h2
      have hb := hk.ty _ _ _ h5 (by decide) (by decide)
      have hc : ∀ i, W1.cell? ⟨g, i, none⟩ = W.cell? ⟨g, i, none⟩ := fun i => by
        unfold World.cell?
        rw [show (⟨g, i, none⟩ : Addr).block = g from rfl, hb]
      exact ⟨g, c, h3, h4, ⟨cs, hb.trans h5⟩, (hc 0).trans h6, (hc 1).trans h7, (hc 2).trans h8⟩
  · obtain ⟨A, c, f1, f2, f3, f4, f5, f6⟩ := h.files b hI
    refine ⟨A, c, (hk.ty _ _ _ f1 (by decide) (by decide)).trans f1, ty_rdb f2 (fun a ha => ?_), f3, f4, f5, fun a ha => ?_⟩
    · obtain ⟨cs, hcs⟩ := f6 a ha
      exact hk.ty _ _ _ hcs (by decide) (by decide)
    · obtain ⟨cs, hcs⟩ := f6 a ha
      exact ⟨cs, (hk.ty _ _ _ hcs (by decide) (by decide)).trans hcs⟩
/-- A row of the records that were added. -/
structure Dn where
  A : Option Addr
  c : Nat
  rs : List Rc
def Dn.v (d : Dn) : Value := .slice d.A d.rs.length d.c
def Dn.ps (d : Dn) : List Pr := d.rs.map Rc.pr
def rowsOf (ds : List Dn) : List (List Pr) := ds.map Dn.ps
theorem rowsOf_len (ds : List Dn) : (rowsOf ds).length = ds.length := by simp [rowsOf]
theorem rowsOf_snoc (ds : List Dn) (d : Dn) : rowsOf (ds ++ [d]) = rowsOf ds ++ [d.ps] := by simp [rowsOf]
/-- All rows of records that were added; their blocks lie below B. -/
structure AllI (N B : Nat) (ds : List Dn) (av : Value) (W : World) : Prop where
  own : W.ownsRow N 33 1 av ds.length (ds.map Dn.v)
  row : ∀ d ∈ ds, W.ownsRow N 37 2 d.v d.rs.length (d.rs.flatMap Rc.cells)
  lt : ∀ d ∈ ds, ∀ k, d.v.ownBlock = some k → k < B
theorem AllI.move {N B : Nat} {ds : List Dn} {av : Value} {W W1 : World} (h : AllI N B ds av W) (h1 : ∀ (k : Nat) (cs : Array Value), W.heap[k]? = some (.cells cs 33 (0, 0)) → W1.heap[k]? = W.heap[k]?) (h2 : ∀ (k : Nat) (cs : Array Value), W.heap[k]? = some (.cells cs 37 (0, 0)) → k < B → W1.heap[k]? = W.heap[k]?) : AllI N B ds av W1 :=
  ⟨own_move h.own (fun k hk => by
    obtain ⟨cs, hc⟩ := own_typed h.own k hk
    exact h1 k cs hc), fun d hd => own_move (h.row d hd) (fun k hk => by
    obtain ⟨cs, hc⟩ := own_typed (h.row d hd) k hk
    exact h2 k cs hc (h.lt d hd k hk)), h.lt⟩
theorem AllI.keep {N N' B : Nat} {ds : List Dn} {av : Value} {W W1 : World} (h : AllI N B ds av W) (hk : KeepFs N' W W1) : AllI N B ds av W1 :=
  h.move (fun k cs hc => hk.ty k cs _ hc (by decide) (by decide)) (fun k cs hc _ => hk.ty k cs _ hc (by decide) (by decide))
theorem AllI.below {N B : Nat} {ds : List Dn} {av : Value} {W W1 : World} (h : AllI N B ds av W) (hb : Below W.heap.size W W1) : AllI N B ds av W1 :=
  h.move (fun k cs hc => hb.block k (blk_lt hc)) (fun k cs hc _ => hb.block k (blk_lt hc))
theorem AllI.bound {N B : Nat} {ds : List Dn} {av : Value} {W : World} (h : AllI N B ds av W) : AllI N W.heap.size ds av W :=
  ⟨h.own, h.row, fun d hd k hk => ((h.row d hd).lt k hk).2⟩
/-- The row of a round grows. -/
theorem AllI.done {N B n : Nat} {ds : List Dn} {av dv : Value} {xs : List Value} {o : Obj} {W W1 : World} (h : AllI N B ds av W) (ho : W.ownsRow B 37 2 dv n xs) (hg : (W.alloc o).grownBy W1 dv.ownBlock) : AllI N B ds av W1 := by
  have key : ∀ k, k < W.heap.size → some k ≠ dv.ownBlock → W1.heap[k]? = W.heap[k]? := fun k hk hne =>
    (hg.block k (by rw [World.size_alloc]; omega) hne).trans (Below.heap_alloc _ _ _ hk)
  refine h.move (fun k cs hc => key k (blk_lt hc) (fun e0 => ?_)) (fun k cs hc hlt => key k (blk_lt hc) (fun e0 => ?_))
  · obtain ⟨c2, hc2⟩ := own_typed ho k e0.symm
    rw [hc] at hc2
    simp only [Option.some.injEq, Obj.cells.injEq] at hc2
    exact absurd hc2.2.1 (by decide)
  · have := (ho.lt k e0.symm).1
    omega
/-- A round's row comes to the others. -/
theorem AllI.snoc {N B : Nat} {ds : List Dn} {av v' : Value} {d : Dn} {o : Obj} {W W1 : World} (h : AllI N B ds av W) (hd : W.ownsRow B 37 2 d.v d.rs.length (d.rs.flatMap Rc.cells)) (hNB : N ≤ B) (hg : (W.alloc o).grownBy W1 av.ownBlock)
    (hown : W1.ownsRow N 33 1 v' (ds.length + 1) (ds.map Dn.v ++ [d.v])) : AllI N W1.heap.size (ds ++ [d]) v' W1 := by
  have key : ∀ k, k < W.heap.size → some k ≠ av.ownBlock → W1.heap[k]? = W.heap[k]? := fun k hk hne =>
    (hg.block k (by rw [World.size_alloc]; omega) hne).trans (Below.heap_alloc _ _ _ hk)
  have k2 : ∀ (k : Nat) (cs : Array Value), W.heap[k]? = some (.cells cs 37 (0, 0)) → W1.heap[k]? = W.heap[k]? := fun k cs hc => key k (blk_lt hc) (fun e0 => by
    obtain ⟨c2, hc2⟩ := own_typed h.own k e0.symm
    rw [hc] at hc2
    simp only [Option.some.injEq, Obj.cells.injEq] at hc2
    exact absurd hc2.2.1 (by decide))
  have hr : ∀ x ∈ ds ++ [d], W1.ownsRow N 37 2 x.v x.rs.length (x.rs.flatMap Rc.cells) := fun x hx => by
    rcases List.mem_append.1 hx with hx | hx
    · exact own_move (h.row x hx) (fun k hk => by
        obtain ⟨cs, hc⟩ := own_typed (h.row x hx) k hk
        exact k2 k cs hc)
    · rw [List.mem_singleton.1 hx]
      exact own_low (own_move hd (fun k hk => by
        obtain ⟨cs, hc⟩ := own_typed hd k hk
        exact k2 k cs hc)) hNB
  exact ⟨by rw [List.length_append, List.length_singleton, List.map_append]; exact hown, hr, fun x hx k hk => ((hr x hx).lt k hk).2⟩
/-- Records that were added are right, and came from the caller. -/
def DnOk (w : World) (d : Dn) : Prop := d.rs.length ≤ 12 ∧ ∀ r ∈ d.rs, r.rd w ∧ r.pr.ok
theorem pr_ok {w : World} {r : Rc} (h : r.rd w) (hr : rightR r.fs r.m = true) : r.pr.ok := ⟨hr, fun s hs => by
  obtain ⟨x, hx, rfl⟩ := List.mem_map.1 hs
  exact (h.row.rd x hx).vi⟩
theorem AllI.cell {N B n : Nat} {ds : List Dn} {ag ac : Nat} {W : World} (h : AllI N B ds (.slice (some ⟨ag, 0, none⟩) n ac) W) {j : Nat} (hj : j < ds.length) : W.cell? ⟨ag, j, none⟩ = some (.slice ds[j].A ds[j].rs.length ds[j].c) := by
  have h1 := h.own.cells (g := ag) rfl j _ (List.getElem?_eq_getElem (by rw [List.length_map]; exact hj))
  rw [List.getElem_map] at h1
  refine Eq.trans ?_ h1
  rcases Nat.eq_zero_or_pos j with rfl | hp
  · rfl
  · simp [Addr.add, Nat.pos_iff_ne_zero.1 hp]
theorem AllI.slice {N B : Nat} {ds : List Dn} {av : Value} {W : World} (h : AllI N B ds av W) : ∃ A c ag, av = .slice A ds.length c ∧ (ds ≠ [] → A = some ⟨ag, 0, none⟩) := by
  obtain ⟨A, c, g, rfl, hr⟩ := row_block h.own
  exact ⟨A, c, g, rfl, fun hne => (hr 0 (by rw [List.length_map]; exact List.length_pos_iff.2 hne)).1⟩
theorem Keeps.trans {N : Nat} {w W : World} {K : Option Addr} {ks : List Int} (h : Keeps N w K ks) (hb : Below N w W) : Keeps N W K ks := by
  obtain ⟨kb, ko, h1, h2⟩ := h
  exact ⟨kb, ko, h1, fun W' hW' => h2 W' (hb.trans hW')⟩
/-- A row's records can be read as they stand. -/
theorem AllI.sl {N B : Nat} {ds : List Dn} {av : Value} {W : World} (h : AllI N B ds av W) {d : Dn} (hd : d ∈ ds) : ∃ b, RcSl W d.A b d.rs ∧ (d.A = none → d.rs.length = 0 ∧ d.c = 0) ∧ d.rs.length ≤ d.c ∧ ∀ a, d.A = some a → a = ⟨a.block, 0, none⟩ := by
  obtain ⟨A, c, b, e, h1, _, h3⟩ := own_sl (h.row d hd)
  unfold Dn.v at e
  injection e with e1 e2 e3
  refine ⟨b, by rw [e1]; exact h1, fun hn => ?_, by rw [e3]; exact h3, fun a ha => ?_⟩
  · rcases (h.row d hd).2 with ⟨e, h0⟩ | ⟨g, cap, cur, e, _⟩
    · unfold Dn.v at e
      injection e with f1 f2 f3
      exact ⟨f2, f3⟩
    · unfold Dn.v at e
      injection e with f1 f2 f3
      rw [hn] at f1
      cases f1
  · rcases (h.row d hd).2 with ⟨e, h0⟩ | ⟨g, cap, cur, e, _⟩
    · unfold Dn.v at e
      injection e with f1 f2 f3
      rw [ha] at f1
      cases f1
    · unfold Dn.v at e
      injection e with f1 f2 f3
      rw [ha] at f1
      injection f1 with f1
      rw [f1]
/-- The crash, as the law wants it. -/
theorem crash_l {w wc : World} {F : Fs} {q B kc : Nat} {ds : List Dn} {av : Value} {ops : Int} {KA : Option Addr} {ks : List Int} (hs : SegC w.heap.size F (rowsOf ds)) (hf : FsAt F q wc) (hq : q < 200) (ha : AllI w.heap.size B ds av wc) (hb : Below w.heap.size w wc) (hK : Keeps w.heap.size w KA ks) (hkl : ks.length ≤ 100) :
    Calls Tryd.prog 11 #[.pointer (some ⟨w.heap.size + 2, 0, none⟩), .int .i64 ops, .slice KA ks.length kc] wc fun e w' => ∃ F' q', e = .returned (.int .i64 0) ∧ FsAt F' q' w' ∧ SegD w.heap.size F' (rowsOf ds) ∧ AllI w.heap.size B ds av w' ∧ Below w.heap.size w w' := by
  have h1 := crash_c (ops := ops) (kc := kc) hf hq (by rw [hs.lo]; exact hK.trans hb) hkl
  rw [hs.fb] at h1
  exact h1.mono fun e w' ⟨F', k, q', he, hf', hk, hc⟩ => ⟨F', q', he, hf', hs.crash hc, ha.keep hk, hb.trans (by rw [← hs.lo]; exact hk.be)⟩
/-- Replay, as the law wants it. -/
theorem replay_l {w wr : World} {F : Fs} {q j : Nat} {ds : List Dn} (hs : SegD w.heap.size F (rowsOf ds)) (hf : FsAt F q wr) (hj : j < ds.length) (hok : DnOk w ds[j]) :
    Calls Tryd.prog 12 #[.pointer (some ⟨w.heap.size + 2, 0, none⟩), .int .i64 ((j : Int) + 1)] wr fun e w' => ∃ (A : Option Addr) (c b : Nat) (rs : List Rc), e = .returned (.tuple #[.slice A rs.length c, .int .i64 0]) ∧ RcSl w' A b rs ∧ rs.map Rc.pr = (ds[j].rs.take rs.length).map Rc.pr ∧ rs.length ≤ ds[j].rs.length ∧ (j + 1 < ds.length → rs.length = ds[j].rs.length) ∧ (∀ r ∈ rs, RcOwn wr.heap.size w' r) ∧ Below wr.heap.size wr w' := by
  have hjr : j < (rowsOf ds).length := by rw [rowsOf_len]; exact hj
  have hrj : (rowsOf ds)[j] = ds[j].ps := List.getElem_map ..
  have hpo : ∀ p ∈ ds[j].ps, p.ok := fun p hp => by
    obtain ⟨r, hr, rfl⟩ := List.mem_map.1 hp
    exact (hok.2 r hr).2
  obtain ⟨b, k, t, qq, d0, h1, h2, h3, h4, h5, h6, h7⟩ := seg_front hs hjr (by rw [hrj]; exact hpo)
  rw [hrj] at h2 h3 h7
  rw [rowsOf_len] at h7
  have hpl : ds[j].ps.length = ds[j].rs.length := by unfold Dn.ps; rw [List.length_map]
  have h8 := replay_c hf h1 h3 h4 h5 h6 (fun p hp => hpo p (List.mem_of_mem_take hp)) (by rw [List.length_take, hpl]; have := hok.1; omega)
  rw [hs.fb] at h8
  refine Calls.mono h8 fun e w' ⟨v, rs, he, ho, hp, hr, hb⟩ => ?_
  obtain ⟨A, c, b2, rfl, hsl, _, _⟩ := own_sl ho
  have hlen : rs.length = k := by
    have := congrArg List.length hp
    rw [List.length_map, List.length_take, hpl] at this
    rw [hpl] at h2
    omega
  refine ⟨A, c, b2, rs, he, hsl, ?_, by rw [hlen, ← hpl]; exact h2, fun h => by rw [hlen, h7 h, hpl], hr, hb⟩
  rw [hp, hlen]
  unfold Dn.ps
  rw [List.map_take]
theorem elem_rec : Tryd.prog.elem 33 = 37 := by simp [Program.elem, Tryd.underlying33]
theorem under_rec : Tryd.prog.underlying 33 = some (.slice (Tryd.prog.elem 33)) := by rw [elem_rec]; exact Tryd.underlying33
theorem size_rec (W : World) : (sizeOf (Tryd.prog.elem 33)).run Tryd.prog W = .ok 2 W := by
  obtain ⟨i0, hi, hzz⟩ := Option.map_eq_some_iff.1 info_rec
  simp only [Prod.mk.injEq] at hzz
  rw [elem_rec]
  simp [sizeOf, typeInfo, hi, hzz.2.1, Result.andThen]
theorem row_front (A : Option Addr) (n c j : Nat) (hj : j ≤ c) (W : World) :
    (Instr.slice 33 (.slice A n c) none (some (.int .i64 (j : Int))) none).run Tryd.prog W = .ok (.slice A j c) W := by
  rw [run_slice_h W 33 A n c under_rec .i64 (j : Int) (by omega) (by omega), size_rec]
  simp only [Result.andThen, sliced, Int.toNat_natCast, Nat.zero_mul, Nat.sub_zero]
  by_cases hc : c = 0
  · rw [if_pos hc]
  · rw [if_neg hc]
    cases A with
    | none => rfl
    | some a => simp [Addr.add]
/-- Ahead of the crash. -/
def CrI (w : World) (v : Value) (W : World) : Prop := ∃ (F : Fs) (q : Nat) (ds : List Dn) (B : Nat), SegC w.heap.size F (rowsOf ds) ∧ FsAt F q W ∧ q < 200 ∧ AllI w.heap.size B ds v W ∧ (∀ d ∈ ds, DnOk w d) ∧ Below w.heap.size w W ∧ ds.length ≤ 6
/-- At a round's head. -/
structure OutI (w : World) (i q : Nat) (F : Fs) (ds : List Dn) (av : Value) (W : World) : Prop where
  seg : SegI w.heap.size F (rowsOf ds)
  fs : FsAt F q W
  al : ∃ B, AllI w.heap.size B ds av W
  ok : ∀ d ∈ ds, DnOk w d
  be : Below w.heap.size w W
  ln : ds.length = i
  hq : q ≤ 2 * i
/-- Within a round: in the file stand ps, in done stand rs. -/
structure InJ (w : World) (i l b q B : Nat) (ds : List Dn) (av dv : Value) (F : Fs) (rs ps : List Rc) (W : World) : Prop where
  seg : SegJ w.heap.size F (rowsOf ds) b (ps.map Rc.pr)
  fs : FsAt F q W
  al : AllI w.heap.size B ds av W
  own : W.ownsRow B 37 2 dv rs.length (rs.flatMap Rc.cells)
  ok : ∀ r ∈ ps, r.rd w ∧ r.pr.ok
  dok : ∀ d ∈ ds, DnOk w d
  lg : W.heap[l]? = some (logC (w.heap.size + 2) (i + 1))
  be : Below w.heap.size w W
  nb : w.heap.size ≤ B ∧ B ≤ W.heap.size
  ln : ds.length = i
  hq : q ≤ 2 * i + 2
/-- The round's records are among all. -/
structure OuJ (w : World) (i l b q : Nat) (ds : List Dn) (d : Dn) (av : Value) (F : Fs) (W : World) : Prop where
  seg : SegJ w.heap.size F (rowsOf ds) b d.ps
  fs : FsAt F q W
  al : ∃ B, AllI w.heap.size B (ds ++ [d]) av W
  ok : ∀ x ∈ ds ++ [d], DnOk w x
  lg : W.heap[l]? = some (logC (w.heap.size + 2) (i + 1))
  be : Below w.heap.size w W
  ln : ds.length = i
  hq : q ≤ 2 * i + 2
theorem OutI.crash {w W : World} {i q : Nat} {F : Fs} {ds : List Dn} {av : Value} (h : OutI w i q F ds av W) (hi : i ≤ 6) : CrI w av W := by
  obtain ⟨B, ha⟩ := h.al
  have := h.hq
  exact ⟨F, q, ds, B, h.seg.crash, h.fs, by omega, ha, h.ok, h.be, by rw [h.ln]; exact hi⟩
theorem OuJ.crash {w W : World} {i l b q : Nat} {F : Fs} {ds : List Dn} {d : Dn} {av : Value} (h : OuJ w i l b q ds d av F W) (hi : i ≤ 5) : CrI w av W := by
  obtain ⟨B, ha⟩ := h.al
  have := h.hq
  exact ⟨F, q, ds ++ [d], B, by rw [rowsOf_snoc]; exact h.seg.crash, h.fs, by omega, ha, h.ok, h.be, by rw [List.length_append, h.ln]; simp; omega⟩
theorem start_l {w wr : World} {i q : Nat} {F : Fs} {ds : List Dn} {av : Value} (h : OutI w i q F ds av wr) (hi : i ≤ 5) :
    Calls Tryd.prog 7 #[.pointer (some ⟨w.heap.size + 2, 0, none⟩), .int .i64 ((i : Int) + 1)] wr fun e w' => (∃ r : Int, e = .returned (.tuple #[.pointer none, .int .i64 r]) ∧ CrI w av w' ∧ decide (r = 0) = false ∧ (r == 0) = false ∧ (r != 0) = true) ∨
      ∃ (l b : Nat) (F' : Fs), e = .returned (.tuple #[.pointer (some ⟨l, 0, none⟩), .int .i64 0]) ∧ InJ w i l b (q + 2) w'.heap.size ds av (.slice none 0 0) F' [] [] w' := by
  have hrl : (rowsOf ds).length = i := by rw [rowsOf_len, h.ln]
  obtain ⟨B, ha⟩ := h.al
  have hq := h.hq
  have h1 := start_c h.fs h.seg.pd (h.seg.no (i + 1) (by omega)) (by omega) (by omega) (by omega)
  rw [h.seg.fb] at h1
  refine Calls.mono h1 fun e w' hR => ?_
  rcases hR with ⟨r, F', h2, h3, h4, h5, h6⟩ | ⟨l, b, F', h2, h3, h4, h5, h6⟩
  · refine .inl ⟨r, h3, ⟨F', q + 2, ds, B, h.seg.bad (by rw [hrl]; exact h6), h4, by omega, ha.keep h5, h.ok, h.be.trans (by rw [← h.seg.lo]; exact h5.be), by rw [h.ln]; omega⟩, decide_eq_false h2, by simp [h2], by simp [h2]⟩
  · have hb : Below w.heap.size wr w' := by rw [← h.seg.lo]; exact h5.be
    refine .inr ⟨l, b, F', h2, h.seg.start (by rw [hrl]; exact h6), h4, ?_, World.ownsRow_nil _ _ _ _, fun r hr => (by cases hr), h.ok, by rw [← h.seg.fb]; exact h3, h.be.trans hb, ⟨Nat.le_trans h.be.size hb.size, Nat.le_refl _⟩, h.ln, by omega⟩
    exact (ha.keep h5).bound
/-- A file system's turn, in a round. -/
theorem InJ.keep {w W W1 : World} {i l b q B : Nat} {ds : List Dn} {av dv : Value} {F F' : Fs} {rs ps ps' : List Rc} (h : InJ w i l b q B ds av dv F rs ps W) (hk : KeepFs w.heap.size W W1) (hs : SegJ w.heap.size F' (rowsOf ds) b (ps'.map Rc.pr)) (hf : FsAt F' q W1) (hok : ∀ r ∈ ps', r.rd w ∧ r.pr.ok) : InJ w i l b q B ds av dv F' rs ps' W1 :=
  ⟨hs, hf, h.al.keep hk, own_move h.own (fun k hk' => by
    obtain ⟨cs, hc⟩ := own_typed h.own k hk'
    exact hk.ty k cs _ hc (by decide) (by decide)), hok, h.dok, (hk.ty _ _ _ h.lg (by decide) (by decide)).trans h.lg, h.be.trans hk.be, ⟨h.nb.1, Nat.le_trans h.nb.2 hk.size⟩, h.ln, h.hq⟩
theorem InJ.below {w W W1 : World} {i l b q B : Nat} {ds : List Dn} {av dv : Value} {F : Fs} {rs ps : List Rc} (h : InJ w i l b q B ds av dv F rs ps W) (hb : Below W.heap.size W W1) : InJ w i l b q B ds av dv F rs ps W1 :=
  h.keep (KeepFs.of_below hb h.be.size) h.seg (h.fs.below hb) h.ok
theorem add_l {w W : World} {i l b q B : Nat} {ds : List Dn} {av dv : Value} {F : Fs} {rs : List Rc} {r : Rc} (h : InJ w i l b q B ds av dv F rs rs W) (hr : r.rd w) (hm : -9223372036854775808 ≤ r.m ∧ r.m < 9223372036854775808) :
    Calls Tryd.prog 9 #[.pointer (some ⟨l, 0, none⟩), .agg #[.slice r.R r.xs.length r.c, .int .i64 r.m]] W fun e w' => ∃ (g : Int) (F' : Fs), e = .returned (.int .i64 g) ∧ ((g = 90 ∧ Below w.heap.size w w') ∨ (InJ w i l b q B ds av dv F' rs rs w' ∧ g ≠ 0 ∧ decide (g = 90) = false ∧ (g == 90) = false ∧ decide (g = 0) = false ∧ (g == 0) = false) ∨ (g = 0 ∧ InJ w i l b q B ds av dv F' rs (rs ++ [r]) w')) := by
  have hrl : (rowsOf ds).length = i := by rw [rowsOf_len, h.ln]
  have hdm : F.dm (i + 1) = some b := by rw [← hrl]; exact h.seg.dm
  have h1 := add_c h.fs hdm (by rw [h.seg.fb]; exact h.lg) (hr.below h.be) hm
  refine Calls.mono h1 fun e w' ⟨g, F', he, hf, hk, h90, hok⟩ => ⟨g, F', he, ?_⟩
  rw [h.seg.lo] at hk
  by_cases hg : g = 90
  · exact .inl ⟨hg, h.be.trans hk.be⟩
  · cases hq : rightR r.fs r.m with
    | false => exact .inl ⟨h90 hq, h.be.trans hk.be⟩
    | true =>
      obtain ⟨ha, _⟩ := hok hq
      have hp : SegJ w.heap.size F (rowsOf ds) b (rs.map Rc.pr) := h.seg
      have h2 := hp.add (p := r.pr) (g := g) ha
      by_cases h0 : g = 0
      · refine .inr (.inr ⟨h0, h.keep hk ?_ hf (fun x hx => ?_)⟩)
        · rw [List.map_append]; exact h2.1 h0
        · rcases List.mem_append.1 hx with hx | hx
          · exact h.ok x hx
          · rw [List.mem_singleton.1 hx]; exact ⟨hr, pr_ok hr hq⟩
      · exact .inr (.inl ⟨h.keep hk (h2.2 h0) hf h.ok, h0, decide_eq_false hg, by simp [hg], decide_eq_false h0, by simp [h0]⟩)
theorem InJ.push {w W W1 : World} {i l b q B : Nat} {ds : List Dn} {av dv v' : Value} {F : Fs} {rs : List Rc} {r : Rc} {o : Obj} (h : InJ w i l b q B ds av dv F rs (rs ++ [r]) W) (hg : (W.alloc o).grownBy W1 dv.ownBlock) (hown : W1.ownsRow B 37 2 v' (rs.length + 1) (rs.flatMap Rc.cells ++ r.cells)) : InJ w i l b q B ds av v' F (rs ++ [r]) (rs ++ [r]) W1 := by
  have hk := KeepR.grown (N := w.heap.size) h.own (.inl rfl) hg h.nb.1 (Nat.le_trans h.nb.1 h.nb.2)
  exact ⟨h.seg, h.fs.keepR (by rw [h.seg.lo]; exact hk), h.al.done h.own hg, by rw [List.length_append, List.length_singleton, List.flatMap_append, List.flatMap_singleton]; exact hown, h.ok, h.dok, (hk.ty _ _ _ h.lg (by decide) (by decide)).trans h.lg, h.be.trans hk.be, ⟨h.nb.1, Nat.le_trans h.nb.2 hk.be.size⟩, h.ln, h.hq⟩
theorem InJ.all {w W W1 : World} {i l b q B : Nat} {ds : List Dn} {av v' : Value} {d : Dn} {F : Fs} {o : Obj} (h : InJ w i l b q B ds av d.v F d.rs d.rs W) (h12 : d.rs.length ≤ 12) (hg : (W.alloc o).grownBy W1 av.ownBlock) (hown : W1.ownsRow w.heap.size 33 1 v' (ds.length + 1) (ds.map Dn.v ++ [d.v])) : OuJ w i l b q ds d v' F W1 := by
  have hk := KeepR.grown (N := w.heap.size) h.al.own (.inr rfl) hg (Nat.le_refl _) (Nat.le_trans h.nb.1 h.nb.2)
  exact ⟨h.seg, h.fs.keepR (by rw [h.seg.lo]; exact hk), ⟨_, h.al.snoc h.own h.nb.1 hg hown⟩, fun x hx => by
    rcases List.mem_append.1 hx with hx | hx
    · exact h.dok x hx
    · rw [List.mem_singleton.1 hx]; exact ⟨h12, h.ok⟩, (hk.ty _ _ _ h.lg (by decide) (by decide)).trans h.lg, h.be.trans hk.be, h.ln, h.hq⟩
theorem sync_l {w W : World} {i l b q : Nat} {ds : List Dn} {d : Dn} {av : Value} {F : Fs} (h : OuJ w i l b q ds d av F W) (hi : i ≤ 5) :
    Calls Tryd.prog 10 #[.pointer (some ⟨l, 0, none⟩)] W fun e w' => ∃ (z : Int), e = .returned (.int .i64 z) ∧ ((CrI w av w' ∧ decide (z = 0) = false ∧ (z == 0) = false ∧ (z != 0) = true) ∨ (z = 0 ∧ ∃ F', OutI w (i + 1) q F' (ds ++ [d]) av w')) := by
  have hrl : (rowsOf ds).length = i := by rw [rowsOf_len, h.ln]
  have hdm : F.dm (i + 1) = some b := by rw [← hrl]; exact h.seg.dm
  obtain ⟨B, ha⟩ := h.al
  have hq := h.hq
  refine Calls.mono (lsync_c h.fs hdm (by rw [h.seg.fb]; exact h.lg)) fun e w' ⟨he, hf, hk⟩ => ⟨_, he, ?_⟩
  rw [h.seg.lo] at hk
  have h2 := h.seg.sync
  rw [← rowsOf_snoc] at h2
  by_cases hz : F.pw = 0
  · exact .inr ⟨hz, _, h2.1 hz, hf, ⟨B, ha.keep hk⟩, h.ok, h.be.trans hk.be, by rw [List.length_append, h.ln]; rfl, by omega⟩
  · exact .inl ⟨⟨_, q, ds ++ [d], B, h2.2 hz, hf, by omega, ha.keep hk, h.ok, h.be.trans hk.be, by rw [List.length_append, h.ln]; simp; omega⟩, decide_eq_false hz, by simp [hz], by simp [hz]⟩
theorem info_row : (Tryd.prog.info? 33).map (fun i => (i.zero, i.size, i.bytes)) = some (some (.slice none 0 0), 1, 24) := by kernel_rfl
theorem row_new (W : World) (v : Value) : ∀ j u, [v][j]? = some u → (W.alloc (.cells #[v] 33)).cell? ((⟨W.heap.size, 0, none⟩ : Addr).add j) = some u := fun j u hj => by
  rw [Addr.add_lit, Nat.zero_add]
  refine (blk_cell (al_new (W := W) (o := .cells #[v] 33) rfl) j).trans ?_
  show ([v].toArray)[j]? = _
  rw [List.getElem?_toArray]
  exact hj
end Go.Proofs.YtnmiipcoojijiaaDoor.Top
