/-
  The list's New, from, Seek and All: what all entries are; conditions: those that each theorem states.
-/
import Derived.Test.YtkpkhggjhpikdaaPut
import Derived.Test.YtkpkhggjhpikdaaRange
import Derived.Sort.LoopGhostIn
namespace Go.Proofs.Ytkpkhggjhpikdaa.Top
set_option linter.unusedSimpArgs false
set_option linter.unusedVariables false
open Go.RowKit Go.Shelf Go.Proofs.YtkpkhggjhpikdaaW.PrintWords Go.Proofs.YtkpkhggjhpikdaaW.PrintLast Go.Proofs.YtkpkhggjhpikdaaW.PrintMore Go.Proofs.Ytkpkhggjhpikdaa.Plain
attribute [local go_sem] Oper.semAt_some
set_option maxRecDepth 100000 in
theorem skip_new (w : World) : Calls Try.prog 6 #[] w fun e w' => e = .returned (ptr w.heap.size) ∧ (∀ b, SkAt w' b w.heap.size []) ∧ Below w.heap.size w w' := by
  go_enter Try.func6, Try.ntmps6
  go_wp2
  go_ret
  refine ⟨rfl, fun b => ⟨⟨_, 0, al_new rfl, rfl, fun i hi => ?_, rfl, rfl, rfl⟩, trivial, trivial, List.Pairwise.nil, List.nodup_nil, (fun _ h => by cases h), (fun _ h => by cases h)⟩, (Below.refl _ w).alloc (Nat.le_refl _) _⟩
  rcases (by omega : i = 0 ∨ i = 1 ∨ i = 2 ∨ i = 3 ∨ i = 4 ∨ i = 5 ∨ i = 6 ∨ i = 7) with rfl | rfl | rfl | rfl | rfl | rfl | rfl | rfl <;> rfl
/-- An entry that is handed on: its key's place, the key, what is known. -/
structure Ent where
  A : Option Addr
  c : Nat
  k : List Int
  a : Ag
def Ent.v (x : Ent) : Value := entV x.A x.k.length x.c x.a
def EntOk (n₀ : Nat) (W : World) (x : Ent) : Prop := W.ownsRow n₀ 5 1 (.slice x.A x.k.length x.c) x.k.length (nums .u8 x.k)
/-- What a round of Seek's keeps: all cells but the rows of entries and their box. -/
def Kq (W W' : World) : Prop := W.heap.size ≤ W'.heap.size ∧ ∀ (k : Nat) (cs : Array Value) (e : TypeId), W.heap[k]? = some (.cells cs e (0, 0)) → e ≠ 49 → e ≠ 47 → W'.heap[k]? = W.heap[k]?
theorem Kq.trans {A B C : World} (h : Kq A B) (k : Kq B C) : Kq A C := ⟨Nat.le_trans h.1 k.1, fun b cs e hb h1 h2 => (k.2 b cs e ((h.2 b cs e hb h1 h2).trans hb) h1 h2).trans (h.2 b cs e hb h1 h2)⟩
theorem Kq.of_below {A B : World} (h : Below A.heap.size A B) : Kq A B := ⟨h.size, fun b cs e hb _ _ => h.block b (blk_lt hb)⟩
theorem Kq.sk {A B : World} {base L : Nat} {ns : List Nd} (h : Kq A B) (hs : SkAt A base L ns) : SkAt B base L ns := hs.move fun k cs e hk he => h.2 k cs e hk (by rcases he with rfl | rfl | rfl <;> decide) (by rcases he with rfl | rfl | rfl <;> decide)
theorem Kq.ent {A B : World} {n₀ : Nat} {x : Ent} (h : Kq A B) (hx : EntOk n₀ A x) : EntOk n₀ B x := own_move hx fun k hk => by
  obtain ⟨cs, hc⟩ := own_typed hx k hk
  exact h.2 k cs _ hc (by decide) (by decide)
theorem from_c (w : World) (L : Nat) : Calls Try.prog 42 #[ptr L, .slice none 0 0] w fun e w' => e = .returned (.func (.func 48) #[] #[.pointer (some ⟨w.heap.size, 0, none⟩), .pointer (some ⟨w.heap.size + 1, 0, none⟩)]) ∧ w' = (w.alloc (.cells #[ptr L] 26)).alloc (.cells #[.slice none 0 0] 23) := by
  unfold ptr
  go_enter Try.func42, Try.ntmps42
  go_wp2
  go_ret
  exact ⟨rfl, rfl⟩
theorem SkAt.aggs {w : World} {base L : Nat} {A B : List Nd} {n : Nd} (h : SkAt w base L (A ++ n :: B)) : w.cell? ⟨n.b, 1, none⟩ = some (.int .u64 n.a.c) ∧ w.cell? ⟨n.b, 2, none⟩ = some (.bool n.a.o) ∧ w.cell? ⟨n.b, 3, none⟩ = some (.int .i64 n.a.hi) ∧ w.cell? ⟨n.b, 4, none⟩ = some (.int .u64 n.a.lo) ∧ w.cell? ⟨n.b, 5, none⟩ = some (.int .i64 n.a.mn) ∧ w.cell? ⟨n.b, 6, none⟩ = some (.int .i64 n.a.mx) := by
  obtain ⟨cs, kv, h1, _, _, ⟨q1, q2, q3, q4, q5, q6⟩, _⟩ := NsAt.at h.nodes
  exact ⟨(blk_cell h1 1).trans q1, (blk_cell h1 2).trans q2, (blk_cell h1 3).trans q3, (blk_cell h1 4).trans q4, (blk_cell h1 5).trans q5, (blk_cell h1 6).trans q6⟩
theorem RdB.some {w : World} {A : Option Addr} {k : List Int} (h : RdB w A k) (h0 : 0 < k.length) : ∃ a, A = some a := by
  obtain ⟨ad, hA, _⟩ := Kd.at_int h 0 (by omega) (by omega)
  exact ⟨ad, hA⟩
set_option maxRecDepth 100000 in
set_option maxHeartbeats 4000000 in
theorem from1 {n : Nat} (hn : 3 ≤ n) {w : World} {base L B1 B2 n₀ : Nat} {ns : List Nd} (hsk : SkAt w base L ns) (h1 : w.heap[B1]? = some (.cells #[ptr L] 26 (0, 0))) (h2 : w.heap[B2]? = some (.cells #[.slice none 0 0] 23 (0, 0))) (hn0 : n₀ ≤ w.heap.size) :
    SeqM Fence.wide n Try.prog 48 #[.pointer (some ⟨B1, 0, none⟩), .pointer (some ⟨B2, 0, none⟩)] (fun x : Ent => #[x.v]) Kq (fun A B => Below A.heap.size A B) (fun pre x W => pre.length < ns.length)
      (fun xs W => xs.map (fun x => (x.k, x.a)) = cont ns ∧ ∀ x ∈ xs, EntOk n₀ W x ∧ x.k.length ≤ x.c) w := fun l J Jx W hW hJ hJx hY h0 => by
  have H0 := Aside0.mk (hsk.below hW)
  have b1 : W.cell? ⟨B1, 0, none⟩ = some (.pointer (some ⟨L, 0, none⟩)) := (blk_cell ((hW.block B1 (blk_lt h1)).trans h1) 0).trans rfl
  have b2 : W.cell? ⟨B2, 0, none⟩ = some (.slice none 0 0) := (blk_cell ((hW.block B2 (blk_lt h2)).trans h2) 0).trans rfl
  have hd : 1 ≤ n - 1 := by omega
  refine callsIn_of_wp Try.func48 rfl trivial ?_ rfl
  simp only [Try.ntmps48, List.size_toArray, List.length_cons, List.length_nil, Nat.reduceAdd, Nat.reduceSub, Array.replicate_succ, Array.replicate_zero, List.push_toArray, List.append_toArray, List.nil_append, List.cons_append]
  clear hsk h1 h2
  gi_wp2
  refine ⟨trivial, fun _ => by omega, ?_⟩
  refine (callsIn_wide.2 (find_c (P := []) (S := ns) (k := []) (A := none) (c := 0) H0.out (RdB.nil _ _) (fun _ h => by cases h) (fun _ h => by cases h) (fun n _ => by simp [lts]))).mono ?_
  rintro e w2 ⟨rfl, hb2⟩
  have nx : w2.cell? ⟨L, 7, none⟩ = some (nxt 0 ns) := (H0.out.below hb2).pnext (P := []) (i := 0) (by omega)
  have H2 := Aside0.mk (H0.out.below hb2)
  have hJ2 := hJ _ _ _ h0 hb2
  have e0 : Eight L [] = #[.pointer (some ⟨L, 0, none⟩), .pointer (some ⟨L, 0, none⟩), .pointer (some ⟨L, 0, none⟩), .pointer (some ⟨L, 0, none⟩), .pointer (some ⟨L, 0, none⟩), .pointer (some ⟨L, 0, none⟩), .pointer (some ⟨L, 0, none⟩), .pointer (some ⟨L, 0, none⟩)] := rfl
  rw [e0]
  have hix : ∀ W, (Instr.index 59 (.agg #[.pointer (some ⟨L, 0, none⟩), .pointer (some ⟨L, 0, none⟩), .pointer (some ⟨L, 0, none⟩), .pointer (some ⟨L, 0, none⟩), .pointer (some ⟨L, 0, none⟩), .pointer (some ⟨L, 0, none⟩), .pointer (some ⟨L, 0, none⟩), .pointer (some ⟨L, 0, none⟩)]) (.int .i64 0)).run Try.prog W = .ok (.pointer (some ⟨L, 0, none⟩)) W := fun W => by kernel_rfl
  gi_wp2
  have hmx : Try.prog.follows .mixedOrders = true := by kernel_rfl
  have hsz : n₀ ≤ w2.heap.size := Nat.le_trans hn0 (Nat.le_trans hW.size hb2.size)
  clear nx
  gi_loopg [4] ns.length (fun m pv wr => ∃ (A B : List Nd) (xs : List Ent), pv = nxt 0 B ∧ Aside0 (ns = A ++ B) ∧ Aside0 (xs.map (fun x => (x.k, x.a)) = cont A ∧ ∀ x ∈ xs, EntOk n₀ wr x ∧ x.k.length ≤ x.c) ∧ Aside0 (SkAt wr base L ns) ∧ J xs wr ∧ n₀ ≤ wr.heap.size ∧ m = B.length)
  case atStart => exact ⟨[], ns, [], rfl, ⟨rfl⟩, ⟨rfl, fun x hx => by cases hx⟩, H2, hJ2, hsz, rfl⟩
  case round =>
    obtain ⟨A, B, xs, rfl, HE, HX, HS, hJs, hzs, rfl⟩ := hrel
    cases B with
    | nil =>
      have ex : nxt 0 [] = .pointer none := rfl
      rw [ex]
      gi_wp2
      go_end0
      refine ⟨⟨_, rfl⟩, .inl ⟨xs, ⟨?_, HX.out.2⟩, hJs⟩⟩
      rw [HE.out, List.append_nil]
      exact HX.out.1
    | cons nd B' =>
      have hS := HS.out
      rw [HE.out] at hS
      have hh := (hS.ht nd (by simp)).1
      have ex : nxt 0 (nd :: B') = .pointer (some ⟨nd.b, 0, none⟩) := if_pos (by omega)
      rw [ex]
      obtain ⟨Ak, ck, hkc, hkr, hkl⟩ := hS.key
      have hky := hS.ky nd (by simp)
      obtain ⟨ak, rfl⟩ := hkr.some hky.2.1
      have hSd := hS.below (below_drew (Below.refl wr.heap.size wr))
      obtain ⟨q1, q2, q3, q4, q5, q6⟩ := hS.aggs
      have hkd : RdB wr.drew (some ak) nd.k := hkr.below (below_drew (Below.refl wr.heap.size wr))
      have HSd := Aside0.mk hSd
      have HK := Aside0.mk hky
      have hlA : A.length < ns.length := by rw [HE.out]; simp
      have HXl : xs.length = A.length := by have := congrArg List.length HX.out.1; simpa [cont] using this
      gi_wp2
      clear hS hSd hky
      gi_region_with_o (first
        | (refine ⟨trivial, fun _ => by omega, ?_⟩
           refine (callsIn_wide.2 (clone_c hkd HK.out.2.1 (by have := HK.out.2.2; omega))).mono ?_
           rintro e w6 ⟨v, rfl, hown, hb6⟩
           obtain ⟨A6, c6, rfl, hr6, hl6⟩ := own_rdb hown
           obtain ⟨p1, p2, p3, p4, p5, p6⟩ := (HSd.out.below hb6).aggs
           have hJ6 := hJ _ _ _ (hJ _ _ _ hJs (below_drew (Below.refl wr.heap.size wr))) hb6
           obtain ⟨fn, tmps, assign, body, hy, hR⟩ := hY xs ⟨A6, c6, nd.k, nd.a⟩ w6 hJ6 (by rw [HXl]; exact hlA)
           simp only [Ent.v, entV] at hy)
        | (refine ⟨fun _ => by omega, hR.mono ?_⟩
           rintro e W3 ⟨bl, rfl, hgo, hst⟩))
      all_goals
        cases bl with
        | false =>
          have hj := hst rfl
          clear hgo hst
          gi_wp2
          refine bodyPost_ret (results_none rfl _ _ _) rfl ?_
          exact ⟨⟨_, rfl⟩, .inr ⟨_, hj⟩⟩
        | true =>
        obtain ⟨hJ3, hk3⟩ := hgo rfl
        clear hgo hst
        have hB6 : Below wr.heap.size wr w6 := (below_drew (Below.refl wr.heap.size wr)).trans hb6
        have hK3 : Kq wr W3 := (Kq.of_below hB6).trans hk3
        have HS3 := Aside0.mk (hK3.sk HS.out)
        have nx3 : W3.cell? ⟨nd.b, 7, none⟩ = some (nxt 0 B') := by
          have h := HS3.out
          rw [HE.out, show A ++ nd :: B' = (A ++ [nd]) ++ B' by simp] at h
          exact h.next (lev := 0) (.inr ⟨A, nd, rfl, rfl, by omega⟩) (by omega)
        have HX3 : Aside0 ((xs ++ [(⟨A6, c6, nd.k, nd.a⟩ : Ent)]).map (fun x => (x.k, x.a)) = cont (A ++ [nd]) ∧ ∀ x ∈ xs ++ [(⟨A6, c6, nd.k, nd.a⟩ : Ent)], EntOk n₀ W3 x ∧ x.k.length ≤ x.c) := by
          refine ⟨by simp [HX.out.1, cont], fun x hx => ?_⟩
          rcases List.mem_append.1 hx with hx | hx
          · exact ⟨hK3.ent (HX.out.2 x hx).1, (HX.out.2 x hx).2⟩
          · obtain rfl := List.mem_singleton.1 hx
            exact ⟨hk3.ent (own_low hown hzs), hl6⟩
        have HE3 : Aside0 (ns = (A ++ [nd]) ++ B') := ⟨by rw [HE.out]; simp⟩
        clear p1 p2 p3 p4 p5 p6 q1 q2 q3 q4 q5 q6 hown hr6 hy hR
        gi_wp2
        gi_roundg B'.length
        all_goals first
        | exact ⟨A ++ [nd], B', _, rfl, HE3, HX3, HS3, hJ3, Nat.le_trans hzs hK3.1, rfl⟩
        | exact Nat.lt_succ_self _
end Go.Proofs.Ytkpkhggjhpikdaa.Top
