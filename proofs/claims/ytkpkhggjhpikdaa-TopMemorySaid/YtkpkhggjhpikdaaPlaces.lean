/-
  A filter's places of a key; what Add sets and May tells; conditions: those that each theorem states.
-/
import Derived.Test.YtkpkhggjhpikdaaBloom
import Derived.Test.YtkpkhggjhpikdaaSeek
namespace Go.Proofs.Ytkpkhggjhpikdaa.Top
set_option linter.unusedSimpArgs false
set_option linter.unusedVariables false
open Go.RowKit Go.Shelf Go.Proofs.YtkpkhggjhpikdaaW.PrintWords Go.Proofs.YtkpkhggjhpikdaaW.PrintLast Go.Proofs.YtkpkhggjhpikdaaW.PrintMore Go.Proofs.Ytkpkhggjhpikdaa.Plain
attribute [local go_sem] Oper.semAt_some
/-- A key's step. -/
def stepF (k : List Int) : Int := bits .or .u32 (moreF (moreF 0 k) [1]) 1
/-- What the iterator has captured. -/
structure PlAt (w : World) (base Bf Ba Bb F : Nat) (a b : Int) : Prop where
  f : w.heap[Bf]? = some (.cells #[ptr F] 28 (0, 0))
  a : w.heap[Ba]? = some (.cells #[.int .u32 a] 78 (0, 0))
  b : w.heap[Bb]? = some (.cells #[.int .u32 b] 78 (0, 0))
  lf : base ≤ Bf
  la : base ≤ Ba
  lb : base ≤ Bb
  ne : Ba ≠ Bb
theorem rdb_one (w : World) : RdB (w.alloc (.cells #[.int .u8 1] 5)) (some ⟨w.heap.size, 0, none⟩) [1] := by
  obtain ⟨A, c, he, h, _⟩ := own_rdb (w := w.alloc (.cells #[.int .u8 1] 5)) (base := 0) (v := .slice (some ⟨w.heap.size, 0, none⟩) 1 1) (k := [1]) ⟨rfl, .inr ⟨w.heap.size, 1, #[.int .u8 1], rfl, Nat.zero_le _, al_new rfl, Nat.le_refl _, by decide, rfl, rfl⟩⟩
  cases he
  exact h
set_option maxRecDepth 100000 in
theorem places_c {w : World} {A : Option Addr} {c F : Nat} {k : List Int} (h : RdB w A k) (hl : k.length ≤ 1000000) (hb : Byt k) :
    Calls Try.prog 27 #[ptr F, .slice A k.length c] w fun e w' => ∃ Bf Ba Bb, e = .returned (.func (.func 41) #[] #[.pointer (some ⟨Bf, 0, none⟩), .pointer (some ⟨Ba, 0, none⟩), .pointer (some ⟨Bb, 0, none⟩)]) ∧ PlAt w' w.heap.size Bf Ba Bb F (moreF 0 k) (stepF k) ∧ Below w.heap.size w w' := by
  unfold ptr
  have HK := Aside0.mk h
  have HB := Aside0.mk hb
  clear h hb
  have hx := xor_rng IntKind.u32.max (k.foldl byteF (bits .xor .u32 IntKind.u32.max 0))
  go_enter Try.func27, Try.ntmps27
  have hone := rdb_one ((w.alloc (.cells #[.pointer (some ⟨F, 0, none⟩)] 28)).alloc (.cells #[.int .u32 (moreF 0 k)] 78))
  simp only [World.size_alloc] at hone
  have HO := Aside0.mk hone
  clear hone
  go_wp2_with (first
    | (refine (crc_sum_c (HK.out.below ((Below.refl _ w).alloc (Nat.le_refl _) _)) hl HB.out).mono ?_; rintro e w2 ⟨rfl, rfl⟩)
    | (refine (crc_more_c (l := [1]) hx HO.out (by decide) (by intro n hn; simp at hn; omega)).mono ?_; rintro e w2 ⟨rfl, rfl⟩))
  go_ret
  refine ⟨w.heap.size, w.heap.size + 1, w.heap.size + 1 + 1 + 1, rfl, ⟨al_old (al_old (al_old (al_new rfl) _) _) _, al_old (al_old (al_new (by simp [World.size_alloc])) _) _, al_new (by simp [World.size_alloc]), Nat.le_refl _, by omega, by omega, by omega⟩, ?_⟩
  exact ((((Below.refl _ w).alloc (Nat.le_refl _) _).alloc (by simp) _).alloc (by simp; omega) _).alloc (by simp; omega) _
/-- The places, one behind the other. -/
def plF (a b M : Int) : Nat → List Int
  | 0 => []
  | n + 1 => a % M :: plF ((a + b) % 4294967296) b M n
def Kr (A B : World) : Prop := A.heap.size ≤ B.heap.size ∧ ∀ (k : Nat) (cs : Array Value) (e : TypeId), A.heap[k]? = some (.cells cs e (0, 0)) → e ≠ 5 → B.heap[k]? = A.heap[k]?
def StepB (Ba : Nat) (A B : World) : Prop := A.grownBy B (some Ba)
theorem StepB.far {Ba k : Nat} {A B : World} (h : StepB Ba A B) (hk : k < A.heap.size) (hne : k ≠ Ba) : B.heap[k]? = A.heap[k]? := h.block k hk (by simpa using hne)
set_option maxRecDepth 100000 in
set_option maxHeartbeats 4000000 in
theorem places1 {n : Nat} (hn : 1 ≤ n) {w : World} {base base' F g hs Bf Ba Bb : Nat} {bl : List Int} {a b : Int} (hfl : FlAt w base F g hs bl) (hp : PlAt w base' Bf Ba Bb F a b) (hl1 : 1 ≤ bl.length) (hl2 : bl.length ≤ 8192) (hh2 : hs ≤ 8) (ha : 0 ≤ a ∧ a < 4294967296) (hb : 0 ≤ b ∧ b < 4294967296) :
    SeqM Fence.wide n Try.prog 41 #[.pointer (some ⟨Bf, 0, none⟩), .pointer (some ⟨Ba, 0, none⟩), .pointer (some ⟨Bb, 0, none⟩)] (fun x : Int => #[.int .u32 x]) Kr (StepB Ba)
      (fun pre x _ => pre ++ [x] <+: plF a b (8 * bl.length) hs) (fun xs _ => xs = plF a b (8 * bl.length) hs) w := fun l J Jx W hW hJ hJx hY h0 => by
  have x1 : W.cell? ⟨Bf, 0, none⟩ = some (.pointer (some ⟨F, 0, none⟩)) := (blk_cell ((hW.block _ (blk_lt hp.f)).trans hp.f) 0).trans rfl
  have x2 : W.cell? ⟨F, 1, none⟩ = some (.int .i64 hs) := (blk_cell ((hW.block _ (blk_lt hfl.fb)).trans hfl.fb) 1).trans rfl
  have hd : 1 ≤ n := by omega
  refine callsIn_of_wp Try.func41 rfl trivial ?_ rfl
  simp only [Try.ntmps41, List.size_toArray, List.length_cons, List.length_nil, Nat.reduceAdd, Nat.reduceSub, Array.replicate_succ, Array.replicate_zero, List.push_toArray, List.append_toArray, List.nil_append, List.cons_append]
  gi_wp2
  have hmx : Try.prog.follows .mixedOrders = true := by kernel_rfl
  have hFb := (hW.block _ (blk_lt hfl.fb)).trans hfl.fb
  have hBf := (hW.block _ (blk_lt hp.f)).trans hp.f
  have hBa := (hW.block _ (blk_lt hp.a)).trans hp.a
  have hBb := (hW.block _ (blk_lt hp.b)).trans hp.b
  have hne := hp.ne
  have hM := Aside0.mk hfl.ne
  clear x1 x2 hfl hp hW
  unfold ptr at hBf
  gi_loopg [9] hs (fun m iv wr => ∃ (i r : Nat) (a' : Int) (pre : List Int), iv = .int .i64 i ∧ i + r = hs ∧ Aside0 (plF a b (8 * bl.length) hs = pre ++ plF a' b (8 * bl.length) r) ∧ Aside0 (0 ≤ a' ∧ a' < 4294967296) ∧
    wr.heap[F]? = some (.cells #[.slice (some ⟨g, 0, none⟩) bl.length bl.length, .int .i64 hs] 65 (0, 0)) ∧ wr.heap[Bf]? = some (.cells #[.pointer (some ⟨F, 0, none⟩)] 28 (0, 0)) ∧
    wr.heap[Ba]? = some (.cells #[.int .u32 a'] 78 (0, 0)) ∧ wr.heap[Bb]? = some (.cells #[.int .u32 b] 78 (0, 0)) ∧ J pre wr ∧ m = r)
  case atStart => exact ⟨0, hs, a, [], rfl, by omega, ⟨rfl⟩, ⟨ha⟩, hFb, hBf, hBa, hBb, h0, rfl⟩
  case round =>
    obtain ⟨i, r, a', pre, rfl, hir, HP, HA, hFb, hBf, hBa, hBb, hJs, rfl⟩ := hrel
    generalize gk = r at *
    cases r with
    | zero =>
      have t1 : decide ((i : Int) < (hs : Int)) = false := decide_eq_false (by omega)
      gi_wp2
      go_end0
      refine ⟨⟨_, rfl⟩, .inl ⟨pre, ?_, hJs⟩⟩
      have := HP.out
      simpa [plF] using this.symm
    | succ r =>
      have t1 : decide ((i : Int) < (hs : Int)) = true := decide_eq_true (by omega)
      have x1 : wr.cell? ⟨Bf, 0, none⟩ = some (.pointer (some ⟨F, 0, none⟩)) := (blk_cell hBf 0).trans rfl
      have x2 : wr.cell? ⟨F, 0, none⟩ = some (.slice (some ⟨g, 0, none⟩) bl.length bl.length) := (blk_cell hFb 0).trans rfl
      have x3 : wr.cell? ⟨Ba, 0, none⟩ = some (.int .u32 a') := (blk_cell hBa 0).trans rfl
      have hX : pre ++ [a' % (8 * bl.length)] <+: plF a b (8 * bl.length) hs := ⟨plF ((a' + b) % 4294967296) b (8 * bl.length) r, by rw [HP.out]; simp [plF]⟩
      gi_wp2
      have f1 : IntKind.i64.wrap (8 * (bl.length : Int)) = 8 * bl.length := IntWalk.i64_in _ (by omega)
      have f2 : IntKind.u32.wrap (8 * (bl.length : Int)) = 8 * bl.length := IntWalk.u32_in _ (by omega)
      have f3 : ¬ ((8 * (bl.length : Int)) = 0) := by omega
      have f4 : a'.tmod (8 * (bl.length : Int)) = a' % (8 * bl.length) := Int.tmod_eq_emod_of_nonneg HA.out.1
      have hJd := hJ pre wr wr.drew hJs ⟨rfl, rfl, rfl, Nat.le_refl _, fun _ _ _ => rfl⟩
      obtain ⟨fn, tmps, assign, body, hy, hR⟩ := hY pre _ wr.drew hJd hX
      gi_region_with_o ((first | refine ⟨fun _ => by omega, hR.mono ?_⟩ | refine hR.mono ?_); rintro e W3 ⟨bo, rfl, hgo, hst⟩)
      all_goals
        clear hR hy
        cases bo with
        | false =>
          have hj := hst rfl
          clear hgo hst
          gi_wp2
          refine bodyPost_ret (results_none rfl _ _ _) rfl ?_
          exact ⟨⟨_, rfl⟩, .inr ⟨_, hj⟩⟩
        | true =>
        obtain ⟨hJ3, hk3⟩ := hgo rfl
        clear hgo hst x1 x2 x3
        have hFb3 := (hk3.2 F _ _ hFb (by decide)).trans hFb
        have hBf3 := (hk3.2 Bf _ _ hBf (by decide)).trans hBf
        have hBa3 := (hk3.2 Ba _ _ hBa (by decide)).trans hBa
        have hBb3 := (hk3.2 Bb _ _ hBb (by decide)).trans hBb
        clear hFb hBf hBa hBb
        have x3 : W3.cell? ⟨Ba, 0, none⟩ = some (.int .u32 a') := (blk_cell hBa3 0).trans rfl
        have x4 : W3.cell? ⟨Bb, 0, none⟩ = some (.int .u32 b) := (blk_cell hBb3 0).trans rfl
        have x5 : W3.frozen? ⟨Ba, 0, none⟩ = false := blk_frozen hBa3 0
        have hJ4 := hJ _ W3 (W3.setCell ⟨Ba, 0, none⟩ (.int .u32 ((a' + b) % 4294967296))) hJ3 ⟨rfl, rfl, rfl, by simp [World.setCell], fun k _ hk => Below.heap_setCell _ _ _ _ (fun e => hk (by rw [e]))⟩
        gi_wp2
        gi_roundg r
        all_goals first
        | exact Nat.lt_succ_self _
        | exact ⟨i + 1, r, (a' + b) % 4294967296, pre ++ [a' % (8 * bl.length)], by push_cast; rfl, by omega, ⟨by rw [HP.out]; simp [plF]⟩, ⟨⟨Int.emod_nonneg _ (by decide), Int.emod_lt_of_pos _ (by decide)⟩⟩,
            (Below.heap_setCell _ _ _ _ (blk_ne hFb3 hBa3 (by decide))).trans hFb3, (Below.heap_setCell _ _ _ _ (blk_ne hBf3 hBa3 (by decide))).trans hBf3, blk_put hBa3 0 _ rfl, (Below.heap_setCell _ _ _ _ (Ne.symm hne)).trans hBb3, hJ4, rfl⟩
end Go.Proofs.Ytkpkhggjhpikdaa.Top
