/-
  The list's New, from, Seek and All: what all entries are; conditions: those that each theorem states.
-/
import Derived.Test.YthabkdbhjioalaaGE
import Derived.Test.YthabkdbhjioalaaGB
import Derived.Sort.LoopGhostIn
import Derived.Maps.OwnIn
namespace Go.Proofs.Ythabkdbhjioalaa.Top
set_option linter.unusedSimpArgs false
set_option linter.unusedVariables false
open Go.RowKit Go.Shelf Go.Proofs.YthabkdbhjioalaaW.PrintWords Go.Proofs.YthabkdbhjioalaaW.PrintLast Go.Proofs.YthabkdbhjioalaaW.PrintMore Go.Proofs.Ythabkdbhjioalaa.Plain
variable {fz : Bool}
attribute [local go_sem] Oper.semAt_some
set_option maxRecDepth 100000 in
theorem skip_new (w : World) : Calls Try.prog 4 #[] w fun e w' => e = .returned (ptr w.heap.size) ∧ (∀ b, SkAt false w' b w.heap.size []) ∧ Below w.heap.size w w' := by
  go_enter Try.func4, Try.ntmps4
  go_wp2
  go_ret
  refine ⟨rfl, fun b => ⟨⟨_, 0, al_new rfl, rfl, fun i hi => ?_, rfl, rfl, rfl⟩, trivial, trivial, List.Pairwise.nil, List.nodup_nil, (fun _ h => by cases h), (fun _ h => by cases h)⟩, (Below.refl _ w).alloc (Nat.le_refl _) _⟩
  rcases (by omega : i = 0 ∨ i = 1 ∨ i = 2 ∨ i = 3 ∨ i = 4 ∨ i = 5 ∨ i = 6 ∨ i = 7) with rfl | rfl | rfl | rfl | rfl | rfl | rfl | rfl <;> rfl
/-- An entry that is handed on: its key's place, the key, what is known. -/
structure Ent where
  A : Option Addr
  c : Nat
  k : List Int
  a : Ag
def Ent.v (x : Ent) : Value := entV x.A x.k.length x.c x.a
def EntOk (n₀ : Nat) (W : World) (x : Ent) : Prop := W.ownsRow n₀ 5 1 (.slice x.A x.k.length x.c) x.k.length (nums .u8 x.k)
/-- What a round of Seek's keeps: all cells but the rows of entries and their box. -/
def Kq (W W' : World) : Prop := W.heap.size ≤ W'.heap.size ∧ ∀ (k : Nat) (cs : Array Value) (e : TypeId), W.heap[k]? = some (.cells cs e (0, 0)) → e ≠ 22 → e ≠ 36 → W'.heap[k]? = W.heap[k]?
theorem Kq.trans {A B C : World} (h : Kq A B) (k : Kq B C) : Kq A C := ⟨Nat.le_trans h.1 k.1, fun b cs e hb h1 h2 => (k.2 b cs e ((h.2 b cs e hb h1 h2).trans hb) h1 h2).trans (h.2 b cs e hb h1 h2)⟩
theorem Kq.of_below {A B : World} (h : Below A.heap.size A B) : Kq A B := ⟨h.size, fun b cs e hb _ _ => h.block b (blk_lt hb)⟩
theorem Kq.sk {A B : World} {base L : Nat} {ns : List Nd} (h : Kq A B) (hs : SkAt fz A base L ns) : SkAt fz B base L ns := hs.move fun k cs e hk he => h.2 k cs e hk (by rcases he with rfl | rfl | rfl <;> decide) (by rcases he with rfl | rfl | rfl <;> decide)
theorem Kq.ent {A B : World} {n₀ : Nat} {x : Ent} (h : Kq A B) (hx : EntOk n₀ A x) : EntOk n₀ B x := own_move hx fun k hk => by
  obtain ⟨cs, hc⟩ := own_typed hx k hk
  exact h.2 k cs _ hc (by decide) (by decide)
theorem from_c (w : World) (L : Nat) (A : Option Addr) (m c : Nat) : Calls Try.prog 41 #[ptr L, .slice A m c] w fun e w' => e = .returned (.func (.func 61) #[] #[.pointer (some ⟨w.heap.size, 0, none⟩), .pointer (some ⟨w.heap.size + 1, 0, none⟩)]) ∧ w' = (w.alloc (.cells #[ptr L] 24)).alloc (.cells #[.slice A m c] 23) := by
  unfold ptr
  go_enter Try.func41, Try.ntmps41
  go_wp2
  go_ret
  exact ⟨rfl, rfl⟩
/-- What is known of what came so far. -/
def Came (S : List Nd) (n₀ : Nat) (xs : List Ent) (W : World) : Prop := xs.map (fun x => (x.k, x.a)) = (cont S).take xs.length ∧ xs.length ≤ S.length ∧ ∀ x ∈ xs, EntOk n₀ W x ∧ x.k.length ≤ x.c
theorem Came.kq {S : List Nd} {n₀ : Nat} {xs : List Ent} {W W' : World} (h : Came S n₀ xs W) (hk : Kq W W') : Came S n₀ xs W' := ⟨h.1, h.2.1, fun x hx => ⟨hk.ent (h.2.2 x hx).1, (h.2.2 x hx).2⟩⟩
theorem SkAt.aggs {w : World} {base L : Nat} {A B : List Nd} {n : Nd} (h : SkAt fz w base L (A ++ n :: B)) : w.cell? ⟨n.b, 1, none⟩ = some (.int .u64 n.a.c) ∧ w.cell? ⟨n.b, 2, none⟩ = some (.bool n.a.o) ∧ w.cell? ⟨n.b, 3, none⟩ = some (.int .i64 n.a.hi) ∧ w.cell? ⟨n.b, 4, none⟩ = some (.int .u64 n.a.lo) ∧ w.cell? ⟨n.b, 5, none⟩ = some (.int .i64 n.a.mn) ∧ w.cell? ⟨n.b, 6, none⟩ = some (.int .i64 n.a.mx) := by
  obtain ⟨cs, kv, h1, _, _, ⟨q1, q2, q3, q4, q5, q6⟩, _⟩ := NsAt.at h.nodes
  exact ⟨(blk_cell h1 1).trans q1, (blk_cell h1 2).trans q2, (blk_cell h1 3).trans q3, (blk_cell h1 4).trans q4, (blk_cell h1 5).trans q5, (blk_cell h1 6).trans q6⟩
theorem RdB.some {w : World} {A : Option Addr} {k : List Int} (h : RdB w A k) (h0 : 0 < k.length) : ∃ a, A = some a := by
  obtain ⟨ad, hA, _⟩ := Kd.at_int h 0 (by omega) (by omega)
  exact ⟨ad, hA⟩
theorem came_snoc {S A B : List Nd} {nd : Nd} {n₀ : Nat} {xs : List Ent} {wr W : World} {A6 : Option Addr} {c6 : Nat} (hE : S = A ++ nd :: B) (hX : xs.map (fun x => (x.k, x.a)) = cont A ∧ ∀ x ∈ xs, EntOk n₀ wr x ∧ x.k.length ≤ x.c) (hl : A.length < S.length)
    (h1 : ∀ x ∈ xs, EntOk n₀ W x) (h2 : EntOk n₀ W ⟨A6, c6, nd.k, nd.a⟩) (h3 : nd.k.length ≤ c6) : Came S n₀ (xs ++ [(⟨A6, c6, nd.k, nd.a⟩ : Ent)]) W := by
  have hlen : xs.length = A.length := by have := congrArg List.length hX.1; simpa [cont] using this
  refine ⟨?_, by rw [List.length_append, hlen]; exact hl, fun x hx => ?_⟩
  · rw [List.map_append, hX.1, List.length_append, hlen, hE]
    simp [cont, List.take_append]
    rw [List.take_of_length_le (by simp)]
  · rcases List.mem_append.1 hx with hx | hx
    · exact ⟨h1 x hx, (hX.2 x hx).2⟩
    · obtain rfl := List.mem_singleton.1 hx
      exact ⟨h2, h3⟩
set_option maxRecDepth 100000 in
set_option maxHeartbeats 4000000 in
theorem from1 {n : Nat} (hn : 3 ≤ n) {w : World} {base L B1 B2 n₀ c0 : Nat} {A0 : Option Addr} {k : List Int} {P S : List Nd} (hsk : SkAt fz w base L (P ++ S)) (hk : RdB w A0 k) (hb : Byt k) (hP : ∀ n ∈ P, lts n.k k = true) (hS : ∀ n ∈ S, lts n.k k = false) (h1 : w.heap[B1]? = some (.cells #[ptr L] 24 (0, 0))) (h2 : w.heap[B2]? = some (.cells #[.slice A0 k.length c0] 23 (0, 0))) (hn0 : n₀ ≤ w.heap.size) :
    SeqM Fence.wide n Try.prog 61 #[.pointer (some ⟨B1, 0, none⟩), .pointer (some ⟨B2, 0, none⟩)] (fun x : Ent => #[x.v]) Kq (fun A B => Below A.heap.size A B) (fun pre x W => Came S n₀ (pre ++ [x]) W)
      (fun xs W => xs.map (fun x => (x.k, x.a)) = cont S ∧ ∀ x ∈ xs, EntOk n₀ W x ∧ x.k.length ≤ x.c) w := fun l J Jx W hW hJ hJx hY h0 => by
  have HK0 := Aside0.mk (hk.below hW)
  have HP0 := Aside0.mk hP
  have HS0 := Aside0.mk hS
  clear hk hP hS
  have H0 := Aside0.mk (hsk.below hW)
  have b1 : W.cell? ⟨B1, 0, none⟩ = some (.pointer (some ⟨L, 0, none⟩)) := (blk_cell ((hW.block B1 (blk_lt h1)).trans h1) 0).trans rfl
  have b2 : W.cell? ⟨B2, 0, none⟩ = some (.slice A0 k.length c0) := (blk_cell ((hW.block B2 (blk_lt h2)).trans h2) 0).trans rfl
  have hd : 1 ≤ n - 1 := by omega
  refine callsIn_of_wp Try.func61 rfl trivial ?_ rfl
  simp only [Try.ntmps61, List.size_toArray, List.length_cons, List.length_nil, Nat.reduceAdd, Nat.reduceSub, Array.replicate_succ, Array.replicate_zero, List.push_toArray, List.append_toArray, List.nil_append, List.cons_append]
  clear hsk h1 h2
  gi_wp2
  refine ⟨trivial, fun _ => by omega, ?_⟩
  refine (callsIn_wide.2 (find_c H0.out HK0.out hb HP0.out HS0.out)).mono ?_
  rintro e w2 ⟨rfl, hb2⟩
  have nx : w2.cell? ⟨prd L 0 P, 7, none⟩ = some (nxt 0 S) := (H0.out.below hb2).pnext (i := 0) (by omega)
  have H2 := Aside0.mk (H0.out.below hb2)
  have hJ2 := hJ _ _ _ h0 hb2
  have e0 : Eight L P = #[.pointer (some ⟨prd L 0 P, 0, none⟩), .pointer (some ⟨prd L 1 P, 0, none⟩), .pointer (some ⟨prd L 2 P, 0, none⟩), .pointer (some ⟨prd L 3 P, 0, none⟩), .pointer (some ⟨prd L 4 P, 0, none⟩), .pointer (some ⟨prd L 5 P, 0, none⟩), .pointer (some ⟨prd L 6 P, 0, none⟩), .pointer (some ⟨prd L 7 P, 0, none⟩)] := rfl
  rw [e0]
  have hix : ∀ W, (Instr.index 52 (.agg #[.pointer (some ⟨prd L 0 P, 0, none⟩), .pointer (some ⟨prd L 1 P, 0, none⟩), .pointer (some ⟨prd L 2 P, 0, none⟩), .pointer (some ⟨prd L 3 P, 0, none⟩), .pointer (some ⟨prd L 4 P, 0, none⟩), .pointer (some ⟨prd L 5 P, 0, none⟩), .pointer (some ⟨prd L 6 P, 0, none⟩), .pointer (some ⟨prd L 7 P, 0, none⟩)]) (.int .i64 0)).run Try.prog W = .ok (.pointer (some ⟨prd L 0 P, 0, none⟩)) W := fun W => by kernel_rfl
  gi_wp2
  have hmx : Try.prog.follows .mixedOrders = true := by kernel_rfl
  have hsz : n₀ ≤ w2.heap.size := Nat.le_trans hn0 (Nat.le_trans hW.size hb2.size)
  clear nx
  gi_loopg [4] S.length (fun m pv wr => ∃ (A B : List Nd) (xs : List Ent), pv = nxt 0 B ∧ Aside0 (S = A ++ B) ∧ Aside0 (xs.map (fun x => (x.k, x.a)) = cont A ∧ ∀ x ∈ xs, EntOk n₀ wr x ∧ x.k.length ≤ x.c) ∧ Aside0 (SkAt fz wr base L (P ++ S)) ∧ J xs wr ∧ n₀ ≤ wr.heap.size ∧ m = B.length)
  case atStart => exact ⟨[], S, [], rfl, ⟨rfl⟩, ⟨rfl, fun x hx => by cases hx⟩, H2, hJ2, hsz, rfl⟩
  case round =>
    obtain ⟨A, B, xs, rfl, HE, HX, HS, hJs, hzs, rfl⟩ := hrel
    cases B with
    | nil =>
      have ex : nxt 0 [] = .pointer none := rfl
      rw [ex]
      gi_wp2
      go_end0
      refine ⟨⟨_, rfl⟩, .inl ⟨xs, ⟨?_, HX.out.2⟩, hJs⟩⟩
      rw [HE.out, List.append_nil]
      exact HX.out.1
    | cons nd B' =>
      have hS := HS.out
      rw [HE.out, ← List.append_assoc] at hS
      have hh := (hS.ht nd (by simp)).1
      have ex : nxt 0 (nd :: B') = .pointer (some ⟨nd.b, 0, none⟩) := if_pos (by omega)
      rw [ex]
      obtain ⟨Ak, ck, hkc, hkr, hkl⟩ := hS.key
      have hky := hS.ky nd (by simp)
      obtain ⟨ak, rfl⟩ := hkr.some hky.2.1
      have hSd := hS.below (below_drew (Below.refl wr.heap.size wr))
      obtain ⟨q1, q2, q3, q4, q5, q6⟩ := hS.aggs
      have hkd : RdB wr.drew (some ak) nd.k := hkr.below (below_drew (Below.refl wr.heap.size wr))
      have HSd := Aside0.mk hSd
      have HK := Aside0.mk hky
      have hlA : A.length < S.length := by rw [HE.out]; simp
      have HXl : xs.length = A.length := by have := congrArg List.length HX.out.1; simpa [cont] using this
      gi_wp2
      clear hS hSd hky
      gi_region_with_o (first
        | (refine ⟨trivial, fun _ => by omega, ?_⟩
           refine (callsIn_wide.2 (clone_c hkd HK.out.2.1 (by have := HK.out.2.2; omega))).mono ?_
           rintro e w6 ⟨v, rfl, hown, hb6⟩
           obtain ⟨A6, c6, rfl, hr6, hl6⟩ := own_rdb hown
           obtain ⟨p1, p2, p3, p4, p5, p6⟩ := (HSd.out.below hb6).aggs
           have hJ6 := hJ _ _ _ (hJ _ _ _ hJs (below_drew (Below.refl wr.heap.size wr))) hb6
           obtain ⟨fn, tmps, assign, body, hy, hR⟩ := hY xs ⟨A6, c6, nd.k, nd.a⟩ w6 hJ6 (came_snoc HE.out HX.out hlA (fun x hx => (Kq.of_below ((below_drew (Below.refl wr.heap.size wr)).trans hb6)).ent (HX.out.2 x hx).1) (own_low hown (Nat.le_trans hzs (Nat.le_refl _))) hl6)
           simp only [Ent.v, entV] at hy)
        | (refine ⟨fun _ => by omega, hR.mono ?_⟩
           rintro e W3 ⟨bl, rfl, hgo, hst⟩))
      all_goals
        cases bl with
        | false =>
          have hj := hst rfl
          clear hgo hst
          gi_wp2
          refine bodyPost_ret (results_none rfl _ _ _) rfl ?_
          exact ⟨⟨_, rfl⟩, .inr ⟨_, hj⟩⟩
        | true =>
        obtain ⟨hJ3, hk3⟩ := hgo rfl
        clear hgo hst
        have hB6 : Below wr.heap.size wr w6 := (below_drew (Below.refl wr.heap.size wr)).trans hb6
        have hK3 : Kq wr W3 := (Kq.of_below hB6).trans hk3
        have HS3 := Aside0.mk (hK3.sk HS.out)
        have nx3 : W3.cell? ⟨nd.b, 7, none⟩ = some (nxt 0 B') := by
          have h := HS3.out
          rw [HE.out, show P ++ (A ++ nd :: B') = (P ++ A ++ [nd]) ++ B' by simp] at h
          exact h.next (lev := 0) (.inr ⟨P ++ A, nd, rfl, rfl, by omega⟩) (by omega)
        have HX3 : Aside0 ((xs ++ [(⟨A6, c6, nd.k, nd.a⟩ : Ent)]).map (fun x => (x.k, x.a)) = cont (A ++ [nd]) ∧ ∀ x ∈ xs ++ [(⟨A6, c6, nd.k, nd.a⟩ : Ent)], EntOk n₀ W3 x ∧ x.k.length ≤ x.c) := by
          refine ⟨by simp [HX.out.1, cont], fun x hx => ?_⟩
          rcases List.mem_append.1 hx with hx | hx
          · exact ⟨hK3.ent (HX.out.2 x hx).1, (HX.out.2 x hx).2⟩
          · obtain rfl := List.mem_singleton.1 hx
            exact ⟨hk3.ent (own_low hown hzs), hl6⟩
        have HE3 : Aside0 (S = (A ++ [nd]) ++ B') := ⟨by rw [HE.out]; simp⟩
        clear p1 p2 p3 p4 p5 p6 q1 q2 q3 q4 q5 q6 hown hr6 hy hR
        gi_wp2
        gi_roundg B'.length
        all_goals first
        | exact ⟨A ++ [nd], B', _, rfl, HE3, HX3, HS3, hJ3, Nat.le_trans hzs hK3.1, rfl⟩
        | exact Nat.lt_succ_self _
variable {fz : Bool}
attribute [local go_sem] Oper.semAt_some
theorem info7 : (Try.prog.info? 36).map (fun i => (i.zero, i.size, i.bytes)) = some (some (.agg #[.slice none 0 0, .int .u64 0, .bool false, .int .i64 0, .int .u64 0, .int .i64 0, .int .i64 0]), 7, 72) := by kernel_rfl
def Ent.cells (x : Ent) : List Value := [.slice x.A x.k.length x.c, .int .u64 x.a.c, .bool x.a.o, .int .i64 x.a.hi, .int .u64 x.a.lo, .int .i64 x.a.mn, .int .i64 x.a.mx]
/-- What the loop holds: its row, in its box. -/
structure SeekI (w : World) (m : Nat) (pre : List Ent) (W : World) : Prop where
  box : ∃ v, W.heap[w.heap.size + 1]? = some (.cells #[v] 22 (0, 0)) ∧ W.ownsRow w.heap.size 36 7 v pre.length (pre.flatMap Ent.cells)
  most : W.heap[w.heap.size]? = some (.cells #[.int .i64 m] 3 (0, 0))
  below : Below w.heap.size w W
theorem own_below {w w1 : World} {base : Nat} {e : TypeId} {size n : Nat} {v : Value} {xs : List Value} (h : w.ownsRow base e size v n xs) (hb : Below w.heap.size w w1) : w1.ownsRow base e size v n xs := own_move h fun k hk => by
  obtain ⟨cs, hc⟩ := own_typed h k hk
  exact hb.block k (blk_lt hc)
theorem SeekI.step {w A B : World} {m : Nat} {pre : List Ent} (h : SeekI w m pre A) (hb : Below A.heap.size A B) : SeekI w m pre B := by
  obtain ⟨⟨v, h1, h2⟩, h3, h4⟩ := h
  exact ⟨⟨v, (hb.block _ (blk_lt h1)).trans h1, own_below h2 hb⟩, (hb.block _ (blk_lt h3)).trans h3, h4.trans (hb.mono h4.size)⟩
theorem put_far {W : World} {l k : Nat} {o o' : Obj} {cs : Array Value} {t : TypeId} {fz : Nat × Nat} (hl : W.heap[l]? = some o) (ho : o.isCells = false) (hk : W.heap[k]? = some (.cells cs t fz)) : (W.putObj l o').heap[k]? = W.heap[k]? := World.putObj_heap_other fun e => by
  subst e
  rw [hl] at hk
  cases hk
  cases ho
theorem own_put {W : World} {l : Nat} {o o' : Obj} (hl : W.heap[l]? = some o) (ho : o.isCells = false) {base : Nat} {e : TypeId} {size n : Nat} {v : Value} {xs : List Value} (h : W.ownsRow base e size v n xs) : (W.putObj l o').ownsRow base e size v n xs := own_move h fun k hk => by
  obtain ⟨cs, hc⟩ := own_typed h k hk
  exact put_far hl ho hc
theorem put_size (W : World) (l : Nat) (o' : Obj) : (W.putObj l o').heap.size = W.heap.size := by simp [World.putObj]
theorem SeekI.put {w W : World} {m : Nat} {pre : List Ent} {l : Nat} {o o' : Obj} (h : SeekI w m pre W) (hw : w.heap.size ≤ l) (hl : W.heap[l]? = some o) (ho : o.isCells = false) : SeekI w m pre (W.putObj l o') := by
  obtain ⟨⟨v, h1, h2⟩, h3, h4⟩ := h
  exact ⟨⟨v, (put_far hl ho h1).trans h1, own_put hl ho h2⟩, (put_far hl ho h3).trans h3, h4.grown (⟨rfl, rfl, rfl, by simp, fun k _ hk => World.putObj_heap_other (fun e => hk (by rw [e]))⟩ : W.grownBy (W.putObj l o') (some l)) h4.size (fun k e => by cases e; exact hw)⟩
theorem Kq.put {W : World} {l : Nat} {o o' : Obj} (hl : W.heap[l]? = some o) (ho : o.isCells = false) : Kq W (W.putObj l o') := ⟨Nat.le_of_eq (put_size W l o').symm, fun k cs e hk _ _ => put_far hl ho hk⟩
theorem cells_new (W : World) (x : Ent) : ∀ j u, x.cells[j]? = some u → (W.alloc (.cells #[.slice x.A x.k.length x.c, .int .u64 x.a.c, .bool x.a.o, .int .i64 x.a.hi, .int .u64 x.a.lo, .int .i64 x.a.mn, .int .i64 x.a.mx] 36)).cell? ((⟨W.heap.size, 0, none⟩ : Addr).add j) = some u := fun j u hj => by
  have hb : (W.alloc (.cells #[.slice x.A x.k.length x.c, .int .u64 x.a.c, .bool x.a.o, .int .i64 x.a.hi, .int .u64 x.a.lo, .int .i64 x.a.mn, .int .i64 x.a.mx] 36)).heap[W.heap.size]? = some (.cells x.cells.toArray 36 (0, 0)) := al_new rfl
  have := (blk_cell hb j).trans (by simpa using hj)
  have ea : ((⟨W.heap.size, 0, none⟩ : Addr).add j) = ⟨W.heap.size, j, none⟩ := by
    by_cases h : j = 0
    · subst h
      rfl
    · simp [Addr.add, h]
  rw [ea]
  exact this
theorem cells_one (x : Ent) : ∀ u ∈ x.cells, u.oneCell' = true := fun u hu => by
  simp only [Ent.cells, List.mem_cons, List.not_mem_nil, or_false] at hu
  rcases hu with rfl | rfl | rfl | rfl | rfl | rfl | rfl <;> rfl
theorem own_some {w : World} {base : Nat} {e : TypeId} {size n : Nat} {v : Value} {xs : List Value} (h : w.ownsRow base e size v (n + 1) xs) (h0 : 0 < n + 1) : ∃ g cap cur, v = .slice (some ⟨g, 0, none⟩) (n + 1) cap ∧ base ≤ g ∧ w.heap[g]? = some (.cells cur e (0, 0)) ∧ n + 1 ≤ cap ∧ cap ≤ maxLen ∧ cur.size = cap * size ∧ cur.toList.take ((n + 1) * size) = xs := by
  rcases h.2 with ⟨_, h⟩ | h
  · omega
  · exact h
theorem cell_of_box {w : World} {b : Nat} {t : TypeId} {v : Value} (h : w.heap[b]? = some (.cells #[v] t (0, 0))) : w.cell? ⟨b, 0, none⟩ = some v ∧ w.frozen? ⟨b, 0, none⟩ = false := ⟨(blk_cell h 0).trans rfl, blk_frozen h 0⟩
theorem row_box {W w3 : World} {o : Obj} {base b n sz : Nat} {t e : TypeId} {u v : Value} {xs : List Value} (h : W.heap[b]? = some (.cells #[u] t (0, 0))) (hown : W.ownsRow base e sz v n xs) (hg : (W.alloc o).grownBy w3 v.ownBlock) (hne : t ≠ e := by decide) : w3.heap[b]? = some (.cells #[u] t (0, 0)) := by
  refine (hg.block b (by simp [World.size_alloc]; have := blk_lt h; omega) (fun hb => ?_)).trans (al_old h _)
  obtain ⟨cs, hc⟩ := own_typed hown b hb.symm
  rw [h] at hc
  simp only [Option.some.injEq, Obj.cells.injEq] at hc
  exact hne hc.2.1
theorem seek_kq {W w3 : World} {o : Obj} {base b n : Nat} {u u' v : Value} {xs : List Value} (hown : W.ownsRow base 36 7 v n xs) (hg : (W.alloc o).grownBy w3 v.ownBlock) (hb : W.heap[b]? = some (.cells #[u] 22 (0, 0))) : Kq W (w3.setCell ⟨b, 0, none⟩ u') := by
  refine ⟨?_, fun k cs e hk h1 h2 => ?_⟩
  · have := hg.size
    simp [World.size_alloc] at this ⊢
    omega
  · refine (Below.heap_setCell _ _ _ _ (fun e' => ?_)).trans ((hg.block k (by simp [World.size_alloc]; have := blk_lt hk; omega) (fun hb' => ?_)).trans ((al_old hk o).trans hk.symm))
    · subst e'
      rw [hb] at hk
      simp only [Option.some.injEq, Obj.cells.injEq] at hk
      exact h1 hk.2.1.symm
    · obtain ⟨cs', hc⟩ := own_typed hown k hb'.symm
      rw [hc] at hk
      simp only [Option.some.injEq, Obj.cells.injEq] at hk
      exact h2 hk.2.1.symm
def SeekR (w : World) (L : Nat) (A : Option Addr) (kn c m : Nat) (S : List Nd) (pre : List Ent) (x : Ent) (a : Act) (W : World) : Prop := ∃ e, W.heap[e]? = some (.cells x.cells.toArray 36 (0, 0)) ∧
  a = { tmps := #[.pointer (some ⟨L, 0, none⟩), .slice A kn c, .int .i64 m, undef, undef, .pointer (some ⟨w.heap.size, 0, none⟩), .slice none 0 0, .pointer (some ⟨w.heap.size + 1, 0, none⟩), .pointer (some ⟨e, 0, none⟩), .pointer (some ⟨L, 0, none⟩), .bool false, .bool false, .int .i64 m, .bool false, .bool false, .pointer (some ⟨L, 0, none⟩), .slice A kn c, .func (.func 61) #[] #[.pointer (some ⟨w.heap.size + 1 + 1, 0, none⟩), .pointer (some ⟨w.heap.size + 1 + 1 + 1, 0, none⟩)], .agg x.cells.toArray, undef, undef, undef, undef, undef, undef, undef, undef, undef], defers := [] } ∧
  SeekI w m pre W ∧ Came S w.heap.size (pre ++ [x]) W ∧ pre.length < m
theorem SeekR.put {w : World} {L : Nat} {A : Option Addr} {kn c m : Nat} {S : List Nd} {pre : List Ent} {x : Ent} {a : Act} {W : World} {l : Nat} {o o' : Obj} (h : SeekR w L A kn c m S pre x a W) (hw : w.heap.size ≤ l) (hl : W.heap[l]? = some o) (ho : o.isCells = false) : SeekR w L A kn c m S pre x a (W.putObj l o') := by
  obtain ⟨e, h1, h2, h3, h4, h5⟩ := h
  exact ⟨e, (put_far hl ho h1).trans h1, h2, h3.put hw hl ho, ⟨h4.1, h4.2.1, fun y hy => ⟨own_put hl ho (h4.2.2 y hy).1, (h4.2.2 y hy).2⟩⟩, h5⟩
theorem came_all {S : List Nd} {xs : List Ent} {m : Nat} (h : xs.map (fun x => (x.k, x.a)) = cont S) (hl : xs.length ≤ m) : xs.map (fun x => (x.k, x.a)) = (cont S).take m := by
  rw [← h, List.take_of_length_le (by simpa using hl)]
theorem came_take {S : List Nd} {n₀ : Nat} {xs : List Ent} {W : World} {m : Nat} (h : Came S n₀ xs W) (hm : xs.length = m) : xs.map (fun x => (x.k, x.a)) = (cont S).take m := by
  rw [h.1, hm]
/-- The list's Seek where nothing is asked for. -/
theorem seek_none {w : World} {L c n : Nat} {A : Option Addr} {m : Int} (hm : m < 1) : Calls Try.prog 18 #[ptr L, .slice A n c, .int .i64 m] w fun e w' => e = .returned (.slice none 0 0) ∧ Below w.heap.size w w' := by
  have t1 : decide (m < 1) = true := decide_eq_true hm
  have hB := (Below.refl w.heap.size w).alloc (Nat.le_refl _) (.cells #[.int .i64 m] 3)
  unfold ptr
  refine (callsIn_wide (n := 6)).1 ?_
  refine callsIn_of_wp_marks Try.func18 rfl trivial ?_ rfl
  simp only [Try.ntmps18, List.size_toArray, List.length_cons, List.length_nil, Nat.reduceAdd, Nat.reduceSub, Array.replicate_succ, Array.replicate_zero, List.push_toArray, List.append_toArray, List.nil_append, List.cons_append]
  gi_wp2
  refine ⟨_, results_tmp rfl _ _ _, rfl, hB⟩
set_option maxRecDepth 100000 in
set_option maxHeartbeats 4000000 in
theorem seek_c {w : World} {base L c m : Nat} {A : Option Addr} {k : List Int} {P S : List Nd} (hsk : SkAt fz w base L (P ++ S)) (hlen : S.length ≤ 4096) (hk : RdB w A k) (hb : Byt k) (hP : ∀ n ∈ P, lts n.k k = true) (hS : ∀ n ∈ S, lts n.k k = false) (hm1 : 1 ≤ m) :
    Calls Try.prog 18 #[ptr L, .slice A k.length c, .int .i64 m] w fun e w' => ∃ (v : Value) (xs : List Ent), e = .returned v ∧ w'.ownsRow w.heap.size 36 7 v xs.length (xs.flatMap Ent.cells) ∧
    (xs.map (fun x => (x.k, x.a)) = (cont S).take m ∧ ∀ x ∈ xs, EntOk w.heap.size w' x ∧ x.k.length ≤ x.c) ∧ Below w.heap.size w w' := by
  refine (callsIn_wide (n := 6)).1 ?_
  unfold ptr
  have H := Aside0.mk hsk
  have HK := Aside0.mk hk
  have HP := Aside0.mk hP
  have HS := Aside0.mk hS
  have t0 : decide ((m : Int) < 1) = false := decide_eq_false (by omega)
  clear hsk hk hP hS
  refine callsIn_of_wp_marks Try.func18 rfl trivial ?_ rfl
  simp only [Try.ntmps18, List.size_toArray, List.length_cons, List.length_nil, Nat.reduceAdd, Nat.reduceSub, Array.replicate_succ, Array.replicate_zero, List.push_toArray, List.append_toArray, List.nil_append, List.cons_append]
  gi_wp2_with (refine ⟨trivial, ?_⟩; refine (callsIn_wide.2 (from_c _ L A k.length c)).mono ?_; rintro e w2 ⟨rfl, rfl⟩)
  obtain ⟨W0, hW0⟩ : ∃ W0, (((w.alloc (.cells #[.int .i64 m] 3)).alloc (.cells #[.slice none 0 0] 22)).alloc (.cells #[ptr L] 24)).alloc (.cells #[.slice A k.length c] 23) = W0 := ⟨_, rfl⟩
  have hB0 : Below w.heap.size w W0 := by
    rw [← hW0]
    exact ((((Below.refl _ w).alloc (Nat.le_refl _) _).alloc (by simp) _).alloc (by simp; omega) _).alloc (by simp; omega) _
  have hI0 : SeekI w m [] W0 := ⟨⟨.slice none 0 0, by rw [← hW0]; exact al_old (al_old (al_new (by simp)) _) _, World.ownsRow_nil _ _ _ _⟩, by rw [← hW0]; exact al_old (al_old (al_old (al_new rfl) _) _) _, hB0⟩
  have hb1 : W0.heap[w.heap.size + 2]? = some (.cells #[ptr L] 24 (0, 0)) := by rw [← hW0]; exact al_old (al_new (by simp)) _
  have hb2 : W0.heap[w.heap.size + 3]? = some (.cells #[.slice A k.length c] 23 (0, 0)) := by rw [← hW0]; exact al_new (by simp)
  have hs0 : W0.heap.size = w.heap.size + 4 := by rw [← hW0]; simp
  unfold ptr at hb1
  rw [hW0]
  clear hW0
  have hseq := from1 (n := 5) (by omega) (H.out.below hB0) (HK.out.below hB0) hb HP.out HS.out hb1 hb2 hB0.size
  refine range_mine (F := Fence.wide) (n := 6) rfl (by omega) (gf := 61) rfl trivial (enters_of Try.func61 (by kernel_rfl) rfl) hseq
    (fun l o hst _ hl _ => (hst.block l (Array.getElem?_eq_some_iff.1 hl).1).trans hl) (fun h k => h.trans k) (fun W l o o' _ hl ho _ => Kq.put hl ho)
    (fun xs W l o o' hwl hl ho hS => ⟨hS.1, fun x hx => ⟨own_put hl ho (hS.2 x hx).1, (hS.2 x hx).2⟩⟩) (Below.refl _ _) (fun _ => rfl)
    (fun pre W => SeekI w m pre W ∧ pre.length < m) (fun pre A B h hst => ⟨h.1.step hst, h.2⟩) (fun pre W l o o' hwl hl ho h => ⟨h.1.put (by omega) hl ho, h.2⟩) (fun W o h => ⟨h.1.step ((Below.refl _ W).alloc (Nat.le_refl _) _), h.2⟩) ⟨hI0, hm1⟩
    (fun cc pre W => cc = .exit 0 ∧ SeekI w m pre W ∧ Came S w.heap.size pre W ∧ pre.length = m) (fun cc pre A B h hst => ⟨h.1, h.2.1.step hst, h.2.2.1.kq (Kq.of_below hst), h.2.2.2⟩) (fun cc pre W l o o' hwl hl ho h => ⟨h.1, h.2.1.put (by omega) hl ho, ⟨h.2.2.1.1, h.2.2.1.2.1, fun y hy => ⟨own_put hl ho (h.2.2.1.2.2 y hy).1, (h.2.2.1.2.2 y hy).2⟩⟩, h.2.2.2⟩)
    (SeekR w L A k.length c m S) (fun pre x a' W l o o' hwl hl ho h => h.put (by omega) hl ho) ?assign ?body ?done ?stop
  case assign =>
    intro l pre x W K hI hX hK
    unfold Ent.v entV
    gi_wp2
    have hb := (Below.refl W.heap.size W).alloc (Nat.le_refl _) (.cells #[.slice x.A x.k.length x.c, .int .u64 x.a.c, .bool x.a.o, .int .i64 x.a.hi, .int .u64 x.a.lo, .int .i64 x.a.mn, .int .i64 x.a.mx] 36)
    exact hK _ _ ⟨W.heap.size, al_new rfl, rfl, hI.1.step hb, hX.kq (Kq.of_below hb), hI.2⟩ hb (Kq.of_below hb)
  case body =>
    rintro l pre x a' W ⟨e, he, rfl, ⟨⟨v, hv, hown⟩, hm, hB⟩, hX, hpm⟩
    obtain ⟨i0, hi, hzz⟩ := Option.map_eq_some_iff.1 info7
    simp only [Prod.mk.injEq] at hzz
    obtain ⟨hz0, hz1, hz2⟩ := hzz
    have c0 : W.cell? ⟨w.heap.size + 1, 0, none⟩ = some v := (blk_cell hv 0).trans rfl
    have e0 : W.cell? ⟨e, 0, none⟩ = some (.slice x.A x.k.length x.c) := (blk_cell he 0).trans rfl
    have e1 : W.cell? ⟨e, 1, none⟩ = some (.int .u64 x.a.c) := (blk_cell he 1).trans rfl
    have e2 : W.cell? ⟨e, 2, none⟩ = some (.bool x.a.o) := (blk_cell he 2).trans rfl
    have e3 : W.cell? ⟨e, 3, none⟩ = some (.int .i64 x.a.hi) := (blk_cell he 3).trans rfl
    have e4 : W.cell? ⟨e, 4, none⟩ = some (.int .u64 x.a.lo) := (blk_cell he 4).trans rfl
    have e5 : W.cell? ⟨e, 5, none⟩ = some (.int .i64 x.a.mn) := (blk_cell he 5).trans rfl
    have e6 : W.cell? ⟨e, 6, none⟩ = some (.int .i64 x.a.mx) := (blk_cell he 6).trans rfl
    have hl63 : pre.length ≤ 4096 := by have := hX.2.1; simp only [List.length_append, List.length_singleton] at this; omega
    have m0 : W.cell? ⟨w.heap.size, 0, none⟩ = some (.int .i64 m) := (blk_cell hm 0).trans rfl
    have hBs := hB.size
    by_cases hlast : pre.length + 1 = m
    · have teq : ((pre.length : Int) + 1 == (m : Int)) = true := by rw [beq_iff_eq]; omega
      have HL := Aside0.mk hlast
      clear hlast
      gi_wp2_with (first
        | (gi_at_builtin; refine wpListIn_append_own_at _ rfl _ _ 22 rfl w.heap.size 36 i0 _ 7 72 Try.underlying22 hi hz0 hz1 hz2 rfl (by decide) _ _ _ rfl (hown.alloc _) ⟨W.heap.size, 0, none⟩ 1 1 x.cells rfl rfl (cells_new W x) (cells_one x) (by simp only [maxLen]; omega) (by omega) (by simp [World.size_alloc]; omega) ?_; intro v' w3 hown' hg3 hnil3 hat3
           obtain ⟨g', cap', cur', rfl, hbase', hgb', hr1, hr2, hr3, hr4⟩ := own_some hown' (by omega)
           have hv3 := row_box hv hown hg3
           have hm3 := row_box hm hown hg3
           obtain ⟨hc3, hf3⟩ := cell_of_box hv3
           obtain ⟨hc4, hf4⟩ := cell_of_box hm3
           go_frame)
        | fail)
      have hko : KeepsOthers W (w3.setCell ⟨w.heap.size + 1, 0, none⟩ (.slice (some ⟨g', 0, none⟩) (pre.length + 1) cap')) := ((KeepsOthers.alloc _ _).trans (KeepsOthers.of_grownBy hg3 (fun j o hj ho => by
                obtain ⟨cs, hc⟩ := own_typed (hown.alloc _) j hj
                rw [hc] at ho
                cases ho
                rfl))).trans (KeepsOthers.setCell _ _ _)
      have hkq := seek_kq (u' := .slice (some ⟨g', 0, none⟩) (pre.length + 1) cap') hown hg3 hv
      have hin : SeekI w m (pre ++ [x]) (w3.setCell ⟨w.heap.size + 1, 0, none⟩ (.slice (some ⟨g', 0, none⟩) (pre.length + 1) cap')) := ⟨⟨_, blk_put hv3 0 _ rfl, by
                have h := own_move (w1 := w3.setCell ⟨w.heap.size + 1, 0, none⟩ (.slice (some ⟨g', 0, none⟩) (pre.length + 1) cap')) hown' (fun k hk => Below.heap_setCell _ _ _ _ (fun e => by
                  obtain ⟨cs, hc⟩ := own_typed hown' k hk
                  subst e
                  rw [hv3] at hc
                  simp at hc))
                simpa using h⟩, (Below.heap_setCell _ _ _ _ (by simp)).trans hm3, ((hB.alloc hB.size _).grown hg3 (by simp; omega) (fun k hk => (hown.lt k hk).1)).setCell (p := ⟨w.heap.size + 1, 0, none⟩) (by simp) _⟩
      exact ⟨hko, rfl, hin, hX.kq ((Kq.of_below (Below.refl _ _)).trans hkq), by simpa using HL.out⟩
    · have teq : ((pre.length : Int) + 1 == (m : Int)) = false := by rw [beq_eq_false_iff_ne]; omega
      gi_wp2_with (first
        | (gi_at_builtin; refine wpListIn_append_own_at _ rfl _ _ 22 rfl w.heap.size 36 i0 _ 7 72 Try.underlying22 hi hz0 hz1 hz2 rfl (by decide) _ _ _ rfl (hown.alloc _) ⟨W.heap.size, 0, none⟩ 1 1 x.cells rfl rfl (cells_new W x) (cells_one x) (by simp only [maxLen]; omega) (by omega) (by simp [World.size_alloc]; omega) ?_; intro v' w3 hown' hg3 hnil3 hat3
           obtain ⟨g', cap', cur', rfl, hbase', hgb', hr1, hr2, hr3, hr4⟩ := own_some hown' (by omega)
           have hv3 := row_box hv hown hg3
           have hm3 := row_box hm hown hg3
           obtain ⟨hc3, hf3⟩ := cell_of_box hv3
           obtain ⟨hc4, hf4⟩ := cell_of_box hm3
           go_frame)
        | fail)
      have hko : KeepsOthers W (w3.setCell ⟨w.heap.size + 1, 0, none⟩ (.slice (some ⟨g', 0, none⟩) (pre.length + 1) cap')) := ((KeepsOthers.alloc _ _).trans (KeepsOthers.of_grownBy hg3 (fun j o hj ho => by
                obtain ⟨cs, hc⟩ := own_typed (hown.alloc _) j hj
                rw [hc] at ho
                cases ho
                rfl))).trans (KeepsOthers.setCell _ _ _)
      have hkq := seek_kq (u' := .slice (some ⟨g', 0, none⟩) (pre.length + 1) cap') hown hg3 hv
      have hin : SeekI w m (pre ++ [x]) (w3.setCell ⟨w.heap.size + 1, 0, none⟩ (.slice (some ⟨g', 0, none⟩) (pre.length + 1) cap')) := ⟨⟨_, blk_put hv3 0 _ rfl, by
                have h := own_move (w1 := w3.setCell ⟨w.heap.size + 1, 0, none⟩ (.slice (some ⟨g', 0, none⟩) (pre.length + 1) cap')) hown' (fun k hk => Below.heap_setCell _ _ _ _ (fun e => by
                  obtain ⟨cs, hc⟩ := own_typed hown' k hk
                  subst e
                  rw [hv3] at hc
                  simp at hc))
                simpa using h⟩, (Below.heap_setCell _ _ _ _ (by simp)).trans hm3, ((hB.alloc hB.size _).grown hg3 (by simp; omega) (fun k hk => (hown.lt k hk).1)).setCell (p := ⟨w.heap.size + 1, 0, none⟩) (by simp) _⟩
      exact ⟨hko, hkq, hin, by simp; omega⟩
  case done =>
    rintro D xs W hD hS ⟨⟨⟨v, hv, hown⟩, hm, hB⟩, hlt⟩ hK
    obtain ⟨hc3, hf3⟩ := cell_of_box hv
    gi_wp2
    refine ⟨by simp, .inl ⟨_, _, rfl, run_takeDeferred hK, ?_⟩⟩
    exact ⟨_, results_tmp rfl _ _ _, v, xs, rfl, own_put hK rfl hown, ⟨came_all hS.1 (by omega), fun x hx => ⟨own_put hK rfl (hS.2 x hx).1, (hS.2 x hx).2⟩⟩, hB.grown (⟨rfl, rfl, rfl, by simp, fun k _ hk => World.putObj_heap_other (fun e => hk (by rw [e]))⟩ : W.grownBy (W.putObj D (.deferred none)) (some D)) hB.size (fun k e => by cases e; omega)⟩
  case stop =>
    rintro D cc xs W hD ⟨rfl, ⟨⟨v, hv, hown⟩, hm, hB⟩, hC, hlen'⟩ hK
    obtain ⟨hc3, hf3⟩ := cell_of_box hv
    gi_wp2
    refine ⟨by simp, .inl ⟨_, _, rfl, run_takeDeferred hK, ?_⟩⟩
    exact ⟨_, results_tmp rfl _ _ _, v, xs, rfl, own_put hK rfl hown, ⟨came_take hC hlen', fun x hx => ⟨own_put hK rfl (hC.2.2 x hx).1, (hC.2.2 x hx).2⟩⟩, hB.grown (⟨rfl, rfl, rfl, by simp, fun k _ hk => World.putObj_heap_other (fun e => hk (by rw [e]))⟩ : W.grownBy (W.putObj D (.deferred none)) (some D)) hB.size (fun k e => by cases e; omega)⟩
set_option maxRecDepth 100000 in
theorem all_c {w : World} {base L : Nat} {ns : List Nd} (hsk : SkAt fz w base L ns) (hlen : ns.length ≤ 4096) : Calls Try.prog 10 #[ptr L] w fun e w' => ∃ (v : Value) (xs : List Ent), e = .returned v ∧ w'.ownsRow w.heap.size 36 7 v xs.length (xs.flatMap Ent.cells) ∧
    (xs.map (fun x => (x.k, x.a)) = cont ns ∧ ∀ x ∈ xs, EntOk w.heap.size w' x ∧ x.k.length ≤ x.c) ∧ Below w.heap.size w w' := by
  have H := Aside0.mk hsk
  clear hsk
  have hseek := seek_c (P := []) (S := ns) (k := []) (A := none) (c := 0) (m := 4096) H.out hlen (RdB.nil _ _) (fun _ h => by cases h) (fun _ h => by cases h) (fun n _ => by simp [lts]) (by omega)
  rw [List.take_of_length_le (by simpa [cont] using hlen)] at hseek
  rw [show (([] : List Int).length) = 0 from rfl, show ((4096 : Nat) : Int) = 4096 from rfl] at hseek
  unfold ptr at hseek ⊢
  go_enter Try.func10, Try.ntmps10
  go_wp2_with (first | (refine hseek.mono ?_; rintro e w2 ⟨v, xs, rfl, ho, hS, hB⟩) | fail)
  go_ret
  exact ⟨v, xs, rfl, ho, hS, hB⟩
theorem flat_get : ∀ (xs : List Ent) (i m : Nat) (hi : i < xs.length), m < 7 → (xs.flatMap Ent.cells)[i * 7 + m]? = xs[i].cells[m]?
  | x :: xs, 0, m, _, hm => by
    have hl : x.cells.length = 7 := rfl
    rw [List.flatMap_cons, Nat.zero_mul, Nat.zero_add, List.getElem?_append_left (by omega)]
    rfl
  | x :: xs, i + 1, m, hi, hm => by
    have hl : x.cells.length = 7 := rfl
    have hi' : i < xs.length := by simpa using hi
    rw [List.flatMap_cons, List.getElem?_append_right (by omega), hl, show (i + 1) * 7 + m - 7 = i * 7 + m by omega, flat_get xs i m hi' hm]
    rfl
/-- A row of entries: its place. -/
theorem row_slice {W : World} {n₀ e size n : Nat} {v : Value} {xs : List Value} (h : W.ownsRow n₀ e size v n xs) : ∃ A c, v = .slice A n c ∧ ∀ i, i < xs.length → ∃ g, A = some ⟨g, 0, none⟩ ∧ g < W.heap.size ∧ W.cell? ⟨g, i, none⟩ = xs[i]? := by
  have h0 := h
  rcases h.2 with ⟨rfl, hn⟩ | ⟨g, cap, cur, rfl, hb, hg, r⟩
  · obtain rfl : n = 0 := by simpa using hn
    have : xs = [] := List.eq_nil_of_length_eq_zero (by have := h.1; omega)
    subst this
    exact ⟨none, 0, rfl, fun i hi => by simp at hi⟩
  · refine ⟨_, _, rfl, fun i hi => ⟨g, rfl, blk_lt hg, ?_⟩⟩
    obtain ⟨u, hu⟩ : ∃ u, xs[i]? = some u := ⟨_, List.getElem?_eq_getElem hi⟩
    have := h0.cells (g := g) rfl i u hu
    rw [hu, ← this]
    rcases Nat.eq_zero_or_pos i with rfl | hp
    · rfl
    · simp [Addr.add, Nat.pos_iff_ne_zero.1 hp]
theorem own_read {w : World} {base c : Nat} {A : Option Addr} {k : List Int} (h : w.ownsRow base 5 1 (.slice A k.length c) k.length (nums .u8 k)) : RdB w A k := by
  obtain ⟨A', c', he, hr, _⟩ := own_rdb h
  cases he
  exact hr
/-- A row of entries: one entry's cells. -/
theorem row_at {W : World} {n₀ : Nat} {xs : List Ent} {A : Option Addr} {n c : Nat} (h : W.ownsRow n₀ 36 7 (.slice A n c) xs.length (xs.flatMap Ent.cells)) {j : Nat} (hj : j < xs.length) :
    ∃ b, A = some ⟨b, 0, none⟩ ∧ b < W.heap.size ∧ W.cell? ⟨b, j * 7, none⟩ = some (.slice xs[j].A xs[j].k.length xs[j].c) ∧ W.cell? ⟨b, j * 7 + 1, none⟩ = some (.int .u64 xs[j].a.c) ∧ W.cell? ⟨b, j * 7 + 2, none⟩ = some (.bool xs[j].a.o) ∧
      W.cell? ⟨b, j * 7 + 3, none⟩ = some (.int .i64 xs[j].a.hi) ∧ W.cell? ⟨b, j * 7 + 4, none⟩ = some (.int .u64 xs[j].a.lo) ∧ W.cell? ⟨b, j * 7 + 5, none⟩ = some (.int .i64 xs[j].a.mn) ∧ W.cell? ⟨b, j * 7 + 6, none⟩ = some (.int .i64 xs[j].a.mx) := by
  obtain ⟨A', c', hA, hc⟩ := row_slice h
  cases hA
  have hl : (xs.flatMap Ent.cells).length = xs.length * 7 := h.1
  have e : ∀ m, m < 7 → ∃ b, A = some ⟨b, 0, none⟩ ∧ b < W.heap.size ∧ W.cell? ⟨b, j * 7 + m, none⟩ = xs[j].cells[m]? := fun m hm => by
    obtain ⟨b, h1, h2, h3⟩ := hc (j * 7 + m) (by omega)
    rw [flat_get xs j m hj hm] at h3
    exact ⟨b, h1, h2, h3⟩
  obtain ⟨b, hb, hlt, h0⟩ := e 0 (by omega)
  have e' : ∀ m, m < 7 → W.cell? ⟨b, j * 7 + m, none⟩ = xs[j].cells[m]? := fun m hm => by
    obtain ⟨b', h1, _, h2⟩ := e m hm
    rw [hb] at h1
    cases h1
    exact h2
  exact ⟨b, hb, hlt, h0, e' 1 (by omega), e' 2 (by omega), e' 3 (by omega), e' 4 (by omega), e' 5 (by omega), e' 6 (by omega)⟩
end Go.Proofs.Ythabkdbhjioalaa.Top
namespace Go.Proofs.Ythabkdbhjioalaa.Top
set_option linter.unusedSimpArgs false
set_option linter.unusedVariables false
open Go.RowKit Go.Proofs.YthabkdbhjioalaaW.PrintWords Go.Proofs.YthabkdbhjioalaaW.PrintLast Go.Proofs.YthabkdbhjioalaaW.PrintMore Go.Proofs.Ythabkdbhjioalaa.Plain
variable {fz : Bool}
theorem slen_c {w : World} {base L : Nat} {ns : List Nd} (h : SkAt fz w base L ns) : Calls Try.prog 13 #[ptr L] w fun e w' => e = .returned (.int .i64 (ns.length : Nat)) ∧ Below w.heap.size w w' := by
  obtain ⟨cs, z, g1, g2, g3, g4, g5, g6⟩ := h.hd
  have x15 : w.cell? ⟨L, 15, none⟩ = some (.int .i64 (ns.length : Nat)) := (cell_of_row _ L _ cs _ (0, 0) g1).trans g4
  unfold ptr
  clear h g1 g2 g3 g4 g5 g6
  go_enter Try.func13, Try.ntmps13
  go_wp2
  go_ret
  exact ⟨rfl, Below.refl _ _⟩
theorem freeze_c {w : World} {base L : Nat} {ns : List Nd} (h : SkAt false w base L ns) : Calls Try.prog 8 #[ptr L] w fun e w' => e = .returned (.int .i64 0) ∧ SkAt true w' base L ns ∧ w' = w.setCell ⟨L, 17, none⟩ (.bool true) := by
  have H := Aside0.mk h
  obtain ⟨cs, z, g1, g2, g3, g4, g5, g6⟩ := h.hd
  have x17 : w.cell? ⟨L, 17, none⟩ = some (.bool false) := (cell_of_row _ L _ cs _ (0, 0) g1).trans g6
  have f17 : w.frozen? ⟨L, 17, none⟩ = false := blk_frozen g1 17
  unfold ptr
  have G1 := Aside0.mk g1
  clear h g1
  go_enter Try.func8, Try.ntmps8
  go_wp2
  go_ret
  have hn : ∀ m ∈ ns, m.b ≠ L := fun m hm e => by
    obtain ⟨cs2, h1⟩ := H.out.nodes.typed hm
    rw [e, G1.out] at h1
    simp at h1
  refine ⟨rfl, ⟨⟨cs.setIfInBounds 17 (.bool true), z, blk_put G1.out 17 _ rfl, by simpa using g2, fun i hi => ?_, ?_, ?_, ?_⟩, trivial, NsAt.off G1.out (by decide) _ H.out.nodes hn, H.out.srt, H.out.nodup, H.out.ky, H.out.ht⟩, rfl⟩
  · rw [Array.getElem?_setIfInBounds, if_neg (by omega)]; exact g3 i hi
  · rw [Array.getElem?_setIfInBounds, if_neg (by omega)]; exact g4
  · rw [Array.getElem?_setIfInBounds, if_neg (by omega)]; exact g5
  · rw [Array.getElem?_setIfInBounds, if_pos rfl, if_pos (by omega)]
/-- What is nothing. -/
def noA : Ag := ⟨0, false, 0, 0, 0, 0⟩
def headG : List Nd → List Int → Ag × Bool
  | [], _ => (noA, false)
  | s :: _, k => if s.k = k then (s.a, true) else (noA, false)
set_option maxHeartbeats 2000000 in
set_option maxRecDepth 100000 in
/-- Put refuses an entry that is none. -/
theorem put_bad {w : World} {base L c n h : Nat} {A : Option Addr} {a : Ag} {ns : List Nd} (hsk : SkAt false w base L ns) (hh1 : 1 ≤ h) (hh2 : h ≤ 8) (hbad : n < 1 ∨ 256 < n ∨ a.c = 0 ∨ rightF a = false) :
    Calls Try.prog 7 #[ptr L, entV A n c a, .int .i64 h] w fun e w' => (∃ z, e = .returned (.int .i64 z)) ∧ Below w.heap.size w w' := by
  obtain ⟨cs, z, g1, g2, g3, g4, g5, g6⟩ := hsk.hd
  obtain ⟨ac, ao, ah, al, an, ax⟩ := a
  have hB := (Below.refl w.heap.size w).alloc (Nat.le_refl _) (.cells #[.slice A n c, .int .u64 ac, .bool ao, .int .i64 ah, .int .u64 al, .int .i64 an, .int .i64 ax] 36)
  have x17 : (w.alloc (.cells #[.slice A n c, .int .u64 ac, .bool ao, .int .i64 ah, .int .u64 al, .int .i64 an, .int .i64 ax] 36)).cell? ⟨L, 17, none⟩ = some (.bool false) := (cell_of_row _ L _ cs _ (0, 0) (al_old g1 _)).trans g6
  have d1 : decide ((h : Int) < 1) = false := decide_eq_false (by omega)
  have d2 : decide ((8 : Int) < (h : Int)) = false := decide_eq_false (by omega)
  clear hsk g1 g2 g3 g4 g5 g6
  unfold ptr entV
  simp only at hbad
  by_cases h3 : (n : Int) < 1
  · have d3 : decide ((n : Int) < 1) = true := decide_eq_true h3
    clear hbad h3
    go_enter Try.func7, Try.ntmps7
    go_wp2
    go_ret
    exact ⟨⟨_, rfl⟩, hB⟩
  · by_cases h4 : (256 : Int) < (n : Int)
    · have d3 : decide ((n : Int) < 1) = false := decide_eq_false h3
      have d4 : decide ((256 : Int) < (n : Int)) = true := decide_eq_true h4
      clear hbad h3 h4
      go_enter Try.func7, Try.ntmps7
      go_wp2
      go_ret
      exact ⟨⟨_, rfl⟩, hB⟩
    · have d3 : decide ((n : Int) < 1) = false := decide_eq_false h3
      have d4 : decide ((256 : Int) < (n : Int)) = false := decide_eq_false h4
      by_cases h5 : ac = 0
      · subst h5
        clear hbad h3 h4
        go_enter Try.func7, Try.ntmps7
        go_wp2
        go_ret
        exact ⟨⟨_, rfl⟩, hB⟩
      · have hr : rightF ⟨ac, ao, ah, al, an, ax⟩ = false := by
          rcases hbad with hb | hb | hb | hb
          · omega
          · omega
          · exact absurd hb h5
          · exact hb
        have h6 : (ac == 0) = false := beq_eq_false_iff_ne.2 h5
        have hright := right_g (a := ⟨ac, ao, ah, al, an, ax⟩) (w := w.alloc (.cells #[.slice A n c, .int .u64 ac, .bool ao, .int .i64 ah, .int .u64 al, .int .i64 an, .int .i64 ax] 36)) h5
        rw [hr] at hright
        clear hbad h3 h4 h5 hr
        unfold Ag.v at hright
        go_enter Try.func7, Try.ntmps7
        go_wp2_with (first | (refine hright.mono ?_; rintro e w2 ⟨rfl, hb2⟩) | fail)
        go_ret
        exact ⟨⟨_, rfl⟩, hB.trans (hb2.mono hB.size)⟩
set_option maxHeartbeats 2000000 in
set_option maxRecDepth 100000 in
theorem get_c {w : World} {base L c : Nat} {A : Option Addr} {k : List Int} {P S : List Nd} (hsk : SkAt fz w base L (P ++ S)) (hlen : S.length ≤ 4096) (hk : RdB w A k) (hkc : k.length ≤ c) (hb : Byt k) (hP : ∀ n ∈ P, lts n.k k = true) (hS : ∀ n ∈ S, lts n.k k = false) :
    Calls Try.prog 14 #[ptr L, .slice A k.length c] w fun e w' => e = .returned (.tuple #[(headG S k).1.v, .bool (headG S k).2]) ∧ Below w.heap.size w w' := by
  obtain ⟨w1, hw1⟩ : ∃ w1, w.alloc (.cells #[.int .u64 0, .bool false, .int .i64 0, .int .u64 0, .int .i64 0, .int .i64 0] 34) = w1 := ⟨_, rfl⟩
  have hB1 : Below w.heap.size w w1 := by rw [← hw1]; exact (Below.refl _ w).alloc (Nat.le_refl _) _
  have hR1 : w1.heap[w.heap.size]? = some (.cells #[.int .u64 0, .bool false, .int .i64 0, .int .u64 0, .int .i64 0, .int .i64 0] 34 (0, 0)) := by rw [← hw1]; exact al_new rfl
  have hkB : ∀ n ∈ S, Byt n.k := fun n hn => (hsk.ky n (by simp [hn])).1
  have hseek := seek_c (m := 1) (c := c) (hsk.below hB1) hlen (hk.below hB1) hb hP hS (Nat.le_refl 1)
  rw [← hw1] at hseek
  rw [show ((1 : Nat) : Int) = 1 from rfl] at hseek
  unfold ptr at hseek ⊢
  have HK := Aside0.mk hk
  have HW := Aside0.mk hw1
  clear hsk hk hP hS hw1
  go_enter Try.func14, Try.ntmps14
  go_wp2_with fail
  refine hseek.mono ?_
  rintro e w2 ⟨v, xs, rfl, hown, ⟨hx, hent⟩, hb2⟩
  rw [HW.out] at hb2
  have hB2 := hB1.trans (hb2.mono hB1.size)
  have hR2 := (hb2.block _ (blk_lt hR1)).trans hR1
  obtain ⟨A2, c2, rfl, hrow⟩ := row_slice hown
  have hl1 : xs.length ≤ 1 := by have := congrArg List.length hx; simp at this; omega
  have HOWN := Aside0.mk hown
  have HENT := Aside0.mk hent
  have HX := Aside0.mk hx
  have hs2 := hB2.size
  clear hseek hown hent hx hrow hB1 hR1 hb2
  generalize hg0 : w.heap.size = g0 at *
  have HG := Aside0.mk hg0
  clear hg0
  generalize w1.heap.size = n₀ at *
  go_wp2_with fail
  go_loopw [12] (fun i wr => ∃ j : Nat, j ≤ xs.length ∧ i = .int .i64 j ∧ (j = 0 ∨ headG S k = (noA, false)) ∧ Below w2.heap.size w2 wr) (fun i _ => xs.length - (intOf i).toNat)
  case atStart => exact ⟨0, by omega, rfl, .inl rfl, Below.refl _ _⟩
  case round =>
    obtain ⟨j, hj, rfl, hjj, hBr⟩ := hrel
    have hBB := hB2.trans (hBr.mono hs2)
    have hRr := (hBr.block _ (blk_lt hR2)).trans hR2
    by_cases hlt : j < xs.length
    · have t1 : decide (j < xs.length) = true := decide_eq_true hlt
      obtain ⟨b, rfl, hbl, x0, x1, x2, x3, x4, x5, x6⟩ := row_at (own_below HOWN.out hBr) hlt
      obtain rfl : j = 0 := by omega
      obtain ⟨s, S', rfl⟩ : ∃ s S', S = s :: S' := by
        cases S with
        | nil =>
          have h1 := congrArg List.length HX.out
          simp [cont] at h1
          rw [h1] at hlt
          simp at hlt
        | cons s S' => exact ⟨s, S', rfl⟩
      have hxe := HX.out
      obtain ⟨x, hxs⟩ : ∃ x, xs = [x] := by
        cases xs with
        | nil => simp at hlt
        | cons x r => exact ⟨x, by cases r with | nil => rfl | cons y r => simp at hl1⟩
      have hx0 : xs[0] = x := by simp [hxs]
      rw [hxs] at hxe
      have hxk : x.k = s.k := by
        simp [cont] at hxe
        exact hxe.1
      have hxa : x.a = s.a := by
        simp [cont] at hxe
        exact hxe.2
      obtain ⟨hxo, hxc⟩ := HENT.out x (by simp [hxs])
      have hxr := own_read (own_below hxo hBr)
      rw [hx0] at x0 x1 x2 x3 x4 x5 x6
      have hn1 : 1 ≤ xs.length := by omega
      clear hxs hx0
      obtain ⟨xA, xc, xk, xa⟩ := x
      simp only at hxk hxa hxr hxc x0 x1 x2 x3 x4 x5 x6
      obtain ⟨ac, ao, ah, al, an, ax⟩ := xa
      simp only at x1 x2 x3 x4 x5 x6
      have hxb : Byt xk := by rw [hxk]; exact hkB s (by simp)
      have HXK := Aside0.mk hxk
      have HXA := Aside0.mk hxa
      clear hxk hxa hxe
      have hBn := (Below.refl wr.heap.size wr).alloc (Nat.le_refl _) (.cells #[.slice xA xk.length xc, .int .u64 ac, .bool ao, .int .i64 ah, .int .u64 al, .int .i64 an, .int .i64 ax] 36)
      have heq := equal_c (c := xc) (d := c) (hxr.below hBn) ((HK.out.below (hBB.mono (Nat.le_of_eq HG.out))).below hBn) hxc hkc hxb hb (r := decide (xk = k)) rfl
      have hN : (wr.alloc (.cells #[.slice xA xk.length xc, .int .u64 ac, .bool ao, .int .i64 ah, .int .u64 al, .int .i64 an, .int .i64 ax] 36)).heap[wr.heap.size]? = some (.cells #[.slice xA xk.length xc, .int .u64 ac, .bool ao, .int .i64 ah, .int .u64 al, .int .i64 an, .int .i64 ax] 36 (0, 0)) := al_new rfl
      clear hxr hxo HENT HX
      go_wp2_with fail
      refine heq.mono ?_
      rintro e w3 ⟨rfl, nd, rfl⟩
      have hN3 : ((wr.alloc (.cells #[.slice xA xk.length xc, .int .u64 ac, .bool ao, .int .i64 ah, .int .u64 al, .int .i64 an, .int .i64 ax] 36)).drewN nd).heap[wr.heap.size]? = some (.cells #[.slice xA xk.length xc, .int .u64 ac, .bool ao, .int .i64 ah, .int .u64 al, .int .i64 an, .int .i64 ax] 36 (0, 0)) := hN
      have hR3 : ((wr.alloc (.cells #[.slice xA xk.length xc, .int .u64 ac, .bool ao, .int .i64 ah, .int .u64 al, .int .i64 an, .int .i64 ax] 36)).drewN nd).heap[g0]? = some (.cells #[.int .u64 0, .bool false, .int .i64 0, .int .u64 0, .int .i64 0, .int .i64 0] 34 (0, 0)) := al_old hRr _
      have hB3 := pw_below_drewN hBn nd
      clear hN hBn heq x0 x1 x2 x3 x4 x5 x6
      generalize (wr.alloc (.cells #[.slice xA xk.length xc, .int .u64 ac, .bool ao, .int .i64 ah, .int .u64 al, .int .i64 an, .int .i64 ax] 36)).drewN nd = w3 at *
      have hg9 := hBB.size
      have hg92 := hBr.size
      have hg9' : g0 ≤ wr.heap.size := Nat.le_trans hs2 hg92
      clear hg9
      have hg9 := hg9'
      clear hg9'
      generalize wr.heap.size = g9 at *
      have f0 := blk_frozen hR3 0
      have f1 := blk_frozen hR3 1
      have f2 := blk_frozen hR3 2
      have f3 := blk_frozen hR3 3
      have f4 := blk_frozen hR3 4
      have f5 := blk_frozen hR3 5
      have y0 : w3.cell? ⟨g0, 0, none⟩ = some (.int .u64 0) := (blk_cell hR3 0).trans rfl
      have y1 : w3.cell? ⟨g0, 1, none⟩ = some (.bool false) := (blk_cell hR3 1).trans rfl
      have y2 : w3.cell? ⟨g0, 2, none⟩ = some (.int .i64 0) := (blk_cell hR3 2).trans rfl
      have y3 : w3.cell? ⟨g0, 3, none⟩ = some (.int .u64 0) := (blk_cell hR3 3).trans rfl
      have y4 : w3.cell? ⟨g0, 4, none⟩ = some (.int .i64 0) := (blk_cell hR3 4).trans rfl
      have y5 : w3.cell? ⟨g0, 5, none⟩ = some (.int .i64 0) := (blk_cell hR3 5).trans rfl
      have z1 : w3.cell? ⟨g9, 1, none⟩ = some (.int .u64 ac) := (blk_cell hN3 1).trans rfl
      have z2 : w3.cell? ⟨g9, 2, none⟩ = some (.bool ao) := (blk_cell hN3 2).trans rfl
      have z3 : w3.cell? ⟨g9, 3, none⟩ = some (.int .i64 ah) := (blk_cell hN3 3).trans rfl
      have z4 : w3.cell? ⟨g9, 4, none⟩ = some (.int .u64 al) := (blk_cell hN3 4).trans rfl
      have z5 : w3.cell? ⟨g9, 5, none⟩ = some (.int .i64 an) := (blk_cell hN3 5).trans rfl
      have z6 : w3.cell? ⟨g9, 6, none⟩ = some (.int .i64 ax) := (blk_cell hN3 6).trans rfl
      by_cases hm : xk = k
      · have hd : decide (xk = k) = true := decide_eq_true hm
        have HM := Aside0.mk hm
        clear hm
        rw [hd]
        go_wp2
        refine bodyPost_ret (results_ct rfl _ _ g0 34 #[.int .u64 ac, .bool ao, .int .i64 ah, .int .u64 al, .int .i64 an, .int .i64 ax] (0, 0) _ rfl (blk_six hR3 _ _ _ _ _ _) Try.underlying34 rfl (by kernel_rfl)) rfl ?_
        have hh : headG (s :: S') k = (⟨ac, ao, ah, al, an, ax⟩, true) := by
          show (if s.k = k then (s.a, true) else (noA, false)) = _
          rw [if_pos (HXK.out.symm.trans HM.out), ← HXA.out]
        rw [hh, HG.out]
        exact ⟨rfl, below_six (hBB.trans (hB3.mono hg9)) (Nat.le_refl _) _ _ _ _ _ _⟩
      · have hd : decide (xk = k) = false := decide_eq_false hm
        rw [hd]
        have hh : headG (s :: S') k = (noA, false) := by
          show (if s.k = k then (s.a, true) else (noA, false)) = _
          rw [if_neg (fun e => hm (HXK.out.trans e))]
        have HH := Aside0.mk hh
        clear hh hm
        go_wp2_with fail
        go_roundw
        case rel => exact ⟨1, by omega, by go_num, .inr HH.out, hBr.trans (hB3.mono hg92)⟩
        case measure => simp [intOf]; omega
    · have t1 : decide (j < xs.length) = false := decide_eq_false hlt
      have hg : headG S k = (noA, false) := by
        rcases hjj with rfl | h
        · have h0 : xs = [] := List.eq_nil_of_length_eq_zero (by omega)
          have h1 := HX.out
          rw [h0] at h1
          cases S with
          | nil => rfl
          | cons s S => simp [cont] at h1
        · exact h
      have HGG := Aside0.mk hg
      clear hg hjj
      have f0 := blk_frozen hRr 0
      have f1 := blk_frozen hRr 1
      have f2 := blk_frozen hRr 2
      have f3 := blk_frozen hRr 3
      have f4 := blk_frozen hRr 4
      have f5 := blk_frozen hRr 5
      have y0 : wr.cell? ⟨g0, 0, none⟩ = some (.int .u64 0) := (blk_cell hRr 0).trans rfl
      have y1 : wr.cell? ⟨g0, 1, none⟩ = some (.bool false) := (blk_cell hRr 1).trans rfl
      have y2 : wr.cell? ⟨g0, 2, none⟩ = some (.int .i64 0) := (blk_cell hRr 2).trans rfl
      have y3 : wr.cell? ⟨g0, 3, none⟩ = some (.int .u64 0) := (blk_cell hRr 3).trans rfl
      have y4 : wr.cell? ⟨g0, 4, none⟩ = some (.int .i64 0) := (blk_cell hRr 4).trans rfl
      have y5 : wr.cell? ⟨g0, 5, none⟩ = some (.int .i64 0) := (blk_cell hRr 5).trans rfl
      go_wp2
      refine bodyPost_ret (results_ct rfl _ _ g0 34 #[.int .u64 0, .bool false, .int .i64 0, .int .u64 0, .int .i64 0, .int .i64 0] (0, 0) _ rfl (blk_six hRr _ _ _ _ _ _) Try.underlying34 rfl (by kernel_rfl)) rfl ?_
      rw [HGG.out, HG.out]
      exact ⟨rfl, below_six hBB (Nat.le_refl _) _ _ _ _ _ _⟩
end Go.Proofs.Ythabkdbhjioalaa.Top
