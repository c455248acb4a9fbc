/-
  A filter in memory; contracts of bloom.New, made and places; conditions: those that each theorem states.
-/
import Derived.Test.YthabkdbhjioalaaGA
import Derived.Test.YthabkdbhjioalaaGF
namespace Go.Proofs.Ythabkdbhjioalaa.Top
set_option linter.unusedSimpArgs false
set_option linter.unusedVariables false
open Go.RowKit Go.Proofs.YthabkdbhjioalaaW.PrintWords Go.Proofs.YthabkdbhjioalaaW.PrintLast Go.Proofs.YthabkdbhjioalaaW.PrintMore Go.Proofs.Ythabkdbhjioalaa.Plain
/-- A filter: its struct in block F, its bytes in block g. -/
structure FlAt (w : World) (base F g hs : Nat) (bl : List Int) : Prop where
  fb : w.heap[F]? = some (.cells #[.slice (some ⟨g, 0, none⟩) bl.length bl.length, .int .i64 hs] 103 (0, 0))
  gb : w.heap[g]? = some (.cells (nums .u8 bl).toArray 5 (0, 0))
  Fb : base ≤ F
  gB : base ≤ g
theorem FlAt.move {w w1 : World} {base F g hs : Nat} {bl : List Int} (h : FlAt w base F g hs bl) (h1 : w1.heap[F]? = w.heap[F]?) (h2 : w1.heap[g]? = w.heap[g]?) : FlAt w1 base F g hs bl := ⟨h1.trans h.fb, h2.trans h.gb, h.Fb, h.gB⟩
theorem FlAt.below {w w1 : World} {base F g hs : Nat} {bl : List Int} (h : FlAt w base F g hs bl) (hb : Below w.heap.size w w1) : FlAt w1 base F g hs bl := h.move (hb.block _ (blk_lt h.fb)) (hb.block _ (blk_lt h.gb))
theorem FlAt.ne {w : World} {base F g hs : Nat} {bl : List Int} (h : FlAt w base F g hs bl) : F ≠ g := by
  rintro rfl
  have := h.fb
  rw [h.gb] at this
  simp at this
theorem made_c {w : World} {base F g hs : Nat} {bl : List Int} (h : FlAt w base F g hs bl) (hh : 0 < hs) : Calls Try.prog 50 #[.pointer (some ⟨F, 0, none⟩)] w fun e w' => e = .returned (.bool true) ∧ w = w' := by
  have x1 : w.cell? ⟨F, 1, none⟩ = some (.int .i64 hs) := (blk_cell h.fb 1).trans rfl
  have t1 : decide ((0 : Int) < (hs : Int)) = true := decide_eq_true (by omega)
  go_enter Try.func50, Try.ntmps50
  go_wp2
  go_ret
  exact ⟨rfl, rfl⟩
set_option maxRecDepth 100000 in
theorem bloom_new {w : World} (d hs : Nat) (h8 : 1 ≤ d) (h9 : d ≤ 8192) (hh1 : 1 ≤ hs) (hh2 : hs ≤ 8) : Calls Try.prog 28 #[.int .i64 ((8 * d : Nat) : Int), .int .i64 hs] w fun e w' => ∃ F g, e = .returned (.tuple #[.pointer (some ⟨F, 0, none⟩), .int .i64 0]) ∧ FlAt w' w.heap.size F g hs (List.replicate d 0) ∧ Below w.heap.size w w' := by
  have t1 : decide (((8 * d : Nat) : Int) < 8) = false := decide_eq_false (by omega)
  have t2 : decide ((65536 : Int) < ((8 * d : Nat) : Int)) = false := decide_eq_false (by omega)
  have t3 : decide ((hs : Int) < 1) = false := decide_eq_false (by omega)
  have t4 : decide ((8 : Int) < (hs : Int)) = false := decide_eq_false (by omega)
  generalize hD : ((8 * d : Nat) : Int) = D at *
  have hD0 : 0 ≤ D := by omega
  have hD1 : D ≤ 65536 := by omega
  have hm : D % 8 = 0 := by omega
  have hq : D / 8 = d := by omega
  have hmk := print_make (P := Try.prog) 23 5 .u8 1 Try.underlying23 info5 (by omega) d (by omega)
  have hl : madeCells #[Value.int .u8 0] d = (nums .u8 (List.replicate d 0)).toArray := by
    apply Array.ext
    · simp [nums, madeCells]
    · intro i h1 h2
      simp [nums, madeCells, Nat.mod_one]
  rw [hl] at hmk
  have HD := Aside0.mk hD
  clear hD hl
  go_enter Try.func28, Try.ntmps28
  go_wp2_with fail
  go_ret2
  refine ⟨w.heap.size + 1, w.heap.size, rfl, ⟨?_, ?_, by omega, Nat.le_refl _⟩, ((Below.refl _ w).alloc (Nat.le_refl _) _).alloc (by simp [World.size_alloc]) _⟩
  · rw [List.length_replicate]
    exact al_new (by simp [World.size_alloc])
  · exact al_old (al_new rfl) _
end Go.Proofs.Ythabkdbhjioalaa.Top
namespace Go.Proofs.Ythabkdbhjioalaa.Top
set_option linter.unusedSimpArgs false
set_option linter.unusedVariables false
open Go.RowKit Go.Shelf Go.Proofs.YthabkdbhjioalaaW.PrintWords Go.Proofs.YthabkdbhjioalaaW.PrintLast Go.Proofs.YthabkdbhjioalaaW.PrintMore Go.Proofs.Ythabkdbhjioalaa.Plain
attribute [local go_sem] Oper.semAt_some
/-- A key's step. -/
def stepF (k : List Int) : Int := bits .or .u32 (moreF (moreF 0 k) [1]) 1
/-- What the iterator has captured. -/
structure PlAt (w : World) (base Bf Ba Bb F : Nat) (a b : Int) : Prop where
  f : w.heap[Bf]? = some (.cells #[ptr F] 65 (0, 0))
  a : w.heap[Ba]? = some (.cells #[.int .u32 a] 107 (0, 0))
  b : w.heap[Bb]? = some (.cells #[.int .u32 b] 107 (0, 0))
  lf : base ≤ Bf
  la : base ≤ Ba
  lb : base ≤ Bb
  ne : Ba ≠ Bb
theorem rdb_one (w : World) : RdB (w.alloc (.cells #[.int .u8 1] 5)) (some ⟨w.heap.size, 0, none⟩) [1] := by
  obtain ⟨A, c, he, h, _⟩ := own_rdb (w := w.alloc (.cells #[.int .u8 1] 5)) (base := 0) (v := .slice (some ⟨w.heap.size, 0, none⟩) 1 1) (k := [1]) ⟨rfl, .inr ⟨w.heap.size, 1, #[.int .u8 1], rfl, Nat.zero_le _, al_new rfl, Nat.le_refl _, by decide, rfl, rfl⟩⟩
  cases he
  exact h
set_option maxRecDepth 100000 in
theorem places_c {w : World} {A : Option Addr} {c F : Nat} {k : List Int} (h : RdB w A k) (hl : k.length ≤ 1000000) (hb : Byt k) :
    Calls Try.prog 51 #[ptr F, .slice A k.length c] w fun e w' => ∃ Bf Ba Bb, e = .returned (.func (.func 66) #[] #[.pointer (some ⟨Bf, 0, none⟩), .pointer (some ⟨Ba, 0, none⟩), .pointer (some ⟨Bb, 0, none⟩)]) ∧ PlAt w' w.heap.size Bf Ba Bb F (moreF 0 k) (stepF k) ∧ Below w.heap.size w w' := by
  unfold ptr
  have HK := Aside0.mk h
  have HB := Aside0.mk hb
  clear h hb
  have hx := xor_rng IntKind.u32.max (k.foldl byteF (bits .xor .u32 IntKind.u32.max 0))
  go_enter Try.func51, Try.ntmps51
  have hone := rdb_one ((w.alloc (.cells #[.pointer (some ⟨F, 0, none⟩)] 65)).alloc (.cells #[.int .u32 (moreF 0 k)] 107))
  simp only [World.size_alloc] at hone
  have HO := Aside0.mk hone
  clear hone
  go_wp2_with (first
    | (refine (crc_sum_c (HK.out.below ((Below.refl _ w).alloc (Nat.le_refl _) _)) hl HB.out).mono ?_; rintro e w2 ⟨rfl, rfl⟩)
    | (refine (crc_more_c (l := [1]) hx HO.out (by decide) (by intro n hn; simp at hn; omega)).mono ?_; rintro e w2 ⟨rfl, rfl⟩))
  go_ret
  refine ⟨w.heap.size, w.heap.size + 1, w.heap.size + 1 + 1 + 1, rfl, ⟨al_old (al_old (al_old (al_new rfl) _) _) _, al_old (al_old (al_new (by simp [World.size_alloc])) _) _, al_new (by simp [World.size_alloc]), Nat.le_refl _, by omega, by omega, by omega⟩, ?_⟩
  exact ((((Below.refl _ w).alloc (Nat.le_refl _) _).alloc (by simp) _).alloc (by simp; omega) _).alloc (by simp; omega) _
/-- The places, one behind the other. -/
def plF (a b M : Int) : Nat → List Int
  | 0 => []
  | n + 1 => a % M :: plF ((a + b) % 4294967296) b M n
def Kr (A B : World) : Prop := A.heap.size ≤ B.heap.size ∧ ∀ (k : Nat) (cs : Array Value) (e : TypeId), A.heap[k]? = some (.cells cs e (0, 0)) → e ≠ 5 → B.heap[k]? = A.heap[k]?
def StepB (Ba : Nat) (A B : World) : Prop := A.grownBy B (some Ba)
theorem StepB.far {Ba k : Nat} {A B : World} (h : StepB Ba A B) (hk : k < A.heap.size) (hne : k ≠ Ba) : B.heap[k]? = A.heap[k]? := h.block k hk (by simpa using hne)
set_option maxRecDepth 100000 in
set_option maxHeartbeats 4000000 in
theorem places1 {n : Nat} (hn : 1 ≤ n) {w : World} {base base' F g hs Bf Ba Bb : Nat} {bl : List Int} {a b : Int} (hfl : FlAt w base F g hs bl) (hp : PlAt w base' Bf Ba Bb F a b) (hl1 : 1 ≤ bl.length) (hl2 : bl.length ≤ 8192) (hh2 : hs ≤ 8) (ha : 0 ≤ a ∧ a < 4294967296) (hb : 0 ≤ b ∧ b < 4294967296) :
    SeqM Fence.wide n Try.prog 66 #[.pointer (some ⟨Bf, 0, none⟩), .pointer (some ⟨Ba, 0, none⟩), .pointer (some ⟨Bb, 0, none⟩)] (fun x : Int => #[.int .u32 x]) Kr (StepB Ba)
      (fun pre x _ => pre ++ [x] <+: plF a b (8 * bl.length) hs) (fun xs _ => xs = plF a b (8 * bl.length) hs) w := fun l J Jx W hW hJ hJx hY h0 => by
  have x1 : W.cell? ⟨Bf, 0, none⟩ = some (.pointer (some ⟨F, 0, none⟩)) := (blk_cell ((hW.block _ (blk_lt hp.f)).trans hp.f) 0).trans rfl
  have x2 : W.cell? ⟨F, 1, none⟩ = some (.int .i64 hs) := (blk_cell ((hW.block _ (blk_lt hfl.fb)).trans hfl.fb) 1).trans rfl
  have hd : 1 ≤ n := by omega
  refine callsIn_of_wp Try.func66 rfl trivial ?_ rfl
  simp only [Try.ntmps66, List.size_toArray, List.length_cons, List.length_nil, Nat.reduceAdd, Nat.reduceSub, Array.replicate_succ, Array.replicate_zero, List.push_toArray, List.append_toArray, List.nil_append, List.cons_append]
  gi_wp2
  have hmx : Try.prog.follows .mixedOrders = true := by kernel_rfl
  have hFb := (hW.block _ (blk_lt hfl.fb)).trans hfl.fb
  have hBf := (hW.block _ (blk_lt hp.f)).trans hp.f
  have hBa := (hW.block _ (blk_lt hp.a)).trans hp.a
  have hBb := (hW.block _ (blk_lt hp.b)).trans hp.b
  have hne := hp.ne
  have hM := Aside0.mk hfl.ne
  clear x1 x2 hfl hp hW
  unfold ptr at hBf
  gi_loopg [9] hs (fun m iv wr => ∃ (i r : Nat) (a' : Int) (pre : List Int), iv = .int .i64 i ∧ i + r = hs ∧ Aside0 (plF a b (8 * bl.length) hs = pre ++ plF a' b (8 * bl.length) r) ∧ Aside0 (0 ≤ a' ∧ a' < 4294967296) ∧
    wr.heap[F]? = some (.cells #[.slice (some ⟨g, 0, none⟩) bl.length bl.length, .int .i64 hs] 103 (0, 0)) ∧ wr.heap[Bf]? = some (.cells #[.pointer (some ⟨F, 0, none⟩)] 65 (0, 0)) ∧
    wr.heap[Ba]? = some (.cells #[.int .u32 a'] 107 (0, 0)) ∧ wr.heap[Bb]? = some (.cells #[.int .u32 b] 107 (0, 0)) ∧ J pre wr ∧ m = r)
  case atStart => exact ⟨0, hs, a, [], rfl, by omega, ⟨rfl⟩, ⟨ha⟩, hFb, hBf, hBa, hBb, h0, rfl⟩
  case round =>
    obtain ⟨i, r, a', pre, rfl, hir, HP, HA, hFb, hBf, hBa, hBb, hJs, rfl⟩ := hrel
    generalize gk = r at *
    cases r with
    | zero =>
      have t1 : decide ((i : Int) < (hs : Int)) = false := decide_eq_false (by omega)
      gi_wp2
      go_end0
      refine ⟨⟨_, rfl⟩, .inl ⟨pre, ?_, hJs⟩⟩
      have := HP.out
      simpa [plF] using this.symm
    | succ r =>
      have t1 : decide ((i : Int) < (hs : Int)) = true := decide_eq_true (by omega)
      have x1 : wr.cell? ⟨Bf, 0, none⟩ = some (.pointer (some ⟨F, 0, none⟩)) := (blk_cell hBf 0).trans rfl
      have x2 : wr.cell? ⟨F, 0, none⟩ = some (.slice (some ⟨g, 0, none⟩) bl.length bl.length) := (blk_cell hFb 0).trans rfl
      have x3 : wr.cell? ⟨Ba, 0, none⟩ = some (.int .u32 a') := (blk_cell hBa 0).trans rfl
      have hX : pre ++ [a' % (8 * bl.length)] <+: plF a b (8 * bl.length) hs := ⟨plF ((a' + b) % 4294967296) b (8 * bl.length) r, by rw [HP.out]; simp [plF]⟩
      gi_wp2
      have f1 : IntKind.i64.wrap (8 * (bl.length : Int)) = 8 * bl.length := IntWalk.i64_in _ (by omega)
      have f2 : IntKind.u32.wrap (8 * (bl.length : Int)) = 8 * bl.length := IntWalk.u32_in _ (by omega)
      have f3 : ¬ ((8 * (bl.length : Int)) = 0) := by omega
      have f4 : a'.tmod (8 * (bl.length : Int)) = a' % (8 * bl.length) := Int.tmod_eq_emod_of_nonneg HA.out.1
      have hJd := hJ pre wr wr.drew hJs ⟨rfl, rfl, rfl, Nat.le_refl _, fun _ _ _ => rfl⟩
      obtain ⟨fn, tmps, assign, body, hy, hR⟩ := hY pre _ wr.drew hJd hX
      gi_region_with_o ((first | refine ⟨fun _ => by omega, hR.mono ?_⟩ | refine hR.mono ?_); rintro e W3 ⟨bo, rfl, hgo, hst⟩)
      all_goals
        clear hR hy
        cases bo with
        | false =>
          have hj := hst rfl
          clear hgo hst
          gi_wp2
          refine bodyPost_ret (results_none rfl _ _ _) rfl ?_
          exact ⟨⟨_, rfl⟩, .inr ⟨_, hj⟩⟩
        | true =>
        obtain ⟨hJ3, hk3⟩ := hgo rfl
        clear hgo hst x1 x2 x3
        have hFb3 := (hk3.2 F _ _ hFb (by decide)).trans hFb
        have hBf3 := (hk3.2 Bf _ _ hBf (by decide)).trans hBf
        have hBa3 := (hk3.2 Ba _ _ hBa (by decide)).trans hBa
        have hBb3 := (hk3.2 Bb _ _ hBb (by decide)).trans hBb
        clear hFb hBf hBa hBb
        have x3 : W3.cell? ⟨Ba, 0, none⟩ = some (.int .u32 a') := (blk_cell hBa3 0).trans rfl
        have x4 : W3.cell? ⟨Bb, 0, none⟩ = some (.int .u32 b) := (blk_cell hBb3 0).trans rfl
        have x5 : W3.frozen? ⟨Ba, 0, none⟩ = false := blk_frozen hBa3 0
        have hJ4 := hJ _ W3 (W3.setCell ⟨Ba, 0, none⟩ (.int .u32 ((a' + b) % 4294967296))) hJ3 ⟨rfl, rfl, rfl, by simp [World.setCell], fun k _ hk => Below.heap_setCell _ _ _ _ (fun e => hk (by rw [e]))⟩
        gi_wp2
        gi_roundg r
        all_goals first
        | exact Nat.lt_succ_self _
        | exact ⟨i + 1, r, (a' + b) % 4294967296, pre ++ [a' % (8 * bl.length)], by push_cast; rfl, by omega, ⟨by rw [HP.out]; simp [plF]⟩, ⟨⟨Int.emod_nonneg _ (by decide), Int.emod_lt_of_pos _ (by decide)⟩⟩,
            (Below.heap_setCell _ _ _ _ (blk_ne hFb3 hBa3 (by decide))).trans hFb3, (Below.heap_setCell _ _ _ _ (blk_ne hBf3 hBa3 (by decide))).trans hBf3, blk_put hBa3 0 _ rfl, (Below.heap_setCell _ _ _ _ (Ne.symm hne)).trans hBb3, hJ4, rfl⟩
attribute [local go_sem] Oper.semAt_some
/-- What is left of memory by a call that writes one block. -/
def But (g : Nat) (w W : World) : Prop := w.grownBy W (some g)
theorem But.trans {g : Nat} {A B C : World} (h : But g A B) (k : But g B C) : But g A C := ⟨k.os.trans h.os, k.tape.trans h.tape, k.output.trans h.output, Nat.le_trans h.size k.size, fun b hb hg => (k.block b (Nat.lt_of_lt_of_le hb h.size) hg).trans (h.block b hb hg)⟩
theorem But.of_below {g : Nat} {A B : World} (h : Below A.heap.size A B) : But g A B := ⟨h.os, h.tape, h.output, h.size, fun b hb _ => h.block b hb⟩
theorem But.of_step {g Ba : Nat} {w A B : World} (h : But g w A) (k : StepB Ba A B) (hBa : w.heap.size ≤ Ba) : But g w B := ⟨k.os.trans h.os, k.tape.trans h.tape, k.output.trans h.output, Nat.le_trans h.size k.size, fun b hb hg => (k.far (Nat.lt_of_lt_of_le hb h.size) (by omega)).trans (h.block b hb hg)⟩
theorem nums_get {l : List Int} {j : Nat} (hj : j < l.length) : (nums .u8 l).toArray[j]? = some (.int .u8 (l.getD j 0)) := by
  simp [nums, hj]
/-- One place is set. -/
def setB (bl : List Int) (p : Int) : List Int := bl.set (p / 8).toNat (bits .or .u8 (bl.getD (p / 8).toNat 0) (2 ^ (p % 8).toNat % 256))
theorem setB_len (bl : List Int) (p : Int) : (setB bl p).length = bl.length := by simp [setB]
theorem setsB_len (bl : List Int) : ∀ ps : List Int, (ps.foldl setB bl).length = bl.length := fun ps => by
  induction ps generalizing bl with
  | nil => rfl
  | cons p ps ih => rw [List.foldl_cons, ih, setB_len]
/-- What a key's places set. -/
def addF (bl k : List Int) (hs : Nat) : List Int := (plF (moreF 0 k) (stepF k) (8 * bl.length) hs).foldl setB bl
structure AddI (w : World) (base F g hs : Nat) (bl pre : List Int) (W : World) : Prop where
  fl : FlAt W base F g hs (pre.foldl setB bl)
  bx : W.heap[w.heap.size]? = some (.cells #[.pointer (some ⟨F, 0, none⟩)] 65 (0, 0))
  bt : But g w W
  lt : F < w.heap.size ∧ g < w.heap.size
theorem AddI.step {w A B : World} {base F g hs Ba : Nat} {bl pre : List Int} (h : AddI w base F g hs bl pre A) (hst : StepB Ba A B) (hBa : w.heap.size + 1 ≤ Ba) : AddI w base F g hs bl pre B := by
  obtain ⟨h1, h2, h3, h4⟩ := h
  exact ⟨h1.move (hst.far (blk_lt h1.fb) (by omega)) (hst.far (blk_lt h1.gb) (by omega)), (hst.far (blk_lt h2) (by omega)).trans h2,
    h3.of_step hst (by omega), h4⟩
theorem AddI.put {w W : World} {base F g hs : Nat} {bl pre : List Int} {l : Nat} {o o' : Obj} (h : AddI w base F g hs bl pre W) (hw : w.heap.size ≤ l) (hl : W.heap[l]? = some o) (ho : o.isCells = false) : AddI w base F g hs bl pre (W.putObj l o') := by
  obtain ⟨h1, h2, h3, h4⟩ := h
  exact ⟨h1.move (put_far hl ho h1.fb) (put_far hl ho h1.gb), (put_far hl ho h2).trans h2, h3.of_step (Ba := l) ⟨rfl, rfl, rfl, by simp, fun k _ hk => World.putObj_heap_other (fun e => hk (by rw [e]))⟩ hw, h4⟩
theorem Kr.put {W : World} {l : Nat} {o o' : Obj} (hl : W.heap[l]? = some o) (ho : o.isCells = false) : Kr W (W.putObj l o') := ⟨Nat.le_of_eq (put_size W l o').symm, fun k cs e hk _ => put_far hl ho hk⟩
theorem Kr.trans {A B C : World} (h : Kr A B) (k : Kr B C) : Kr A C := ⟨Nat.le_trans h.1 k.1, fun b cs e hb h1 => (k.2 b cs e ((h.2 b cs e hb h1).trans hb) h1).trans (h.2 b cs e hb h1)⟩
theorem Kr.refl (A : World) : Kr A A := ⟨Nat.le_refl _, fun _ _ _ _ _ => rfl⟩
def AddR (w : World) (base F g hs : Nat) (bl : List Int) (A : Option Addr) (kn c Bf Ba Bb : Nat) (M : Int) (pre : List Int) (x : Int) (a : Act) (W : World) : Prop :=
  a = { tmps := #[.pointer (some ⟨F, 0, none⟩), .slice A kn c, .pointer (some ⟨w.heap.size, 0, none⟩), undef, .int .i64 0, .int .u32 x, .pointer (some ⟨F, 0, none⟩), .bool true, .bool false, .pointer (some ⟨F, 0, none⟩), .slice A kn c,
    .func (.func 66) #[] #[.pointer (some ⟨Bf, 0, none⟩), .pointer (some ⟨Ba, 0, none⟩), .pointer (some ⟨Bb, 0, none⟩)], .int .u32 x, undef, undef, undef, undef, undef, undef, undef, undef, undef, undef, undef, undef, undef], defers := [] } ∧
  AddI w base F g hs bl pre W ∧ 0 ≤ x ∧ x < M
theorem plF_all {M : Int} (hM : 0 < M) : ∀ (n : Nat) (a b : Int), ∀ x ∈ plF a b M n, 0 ≤ x ∧ x < M
  | 0, _, _, _, h => by cases h
  | n + 1, a, b, x, h => by
    rcases List.mem_cons.1 h with rfl | h
    · exact ⟨Int.emod_nonneg _ (by omega), Int.emod_lt_of_pos _ hM⟩
    · exact plF_all hM n _ _ x h
theorem plF_rng {M a b x : Int} {n : Nat} {pre : List Int} (hM : 0 < M) (h : pre ++ [x] <+: plF a b M n) : 0 ≤ x ∧ x < M := plF_all hM n a b x (h.subset (by simp))
set_option maxRecDepth 100000 in
set_option maxHeartbeats 4000000 in
theorem badd_c {w : World} {base F g hs c : Nat} {A : Option Addr} {k bl : List Int} (hfl : FlAt w base F g hs bl) (hk : RdB w A k) (hkl : k.length ≤ 1000000) (hb : Byt k) (hl1 : 1 ≤ bl.length) (hl2 : bl.length ≤ 8192) (hh1 : 1 ≤ hs) (hh2 : hs ≤ 8) :
    Calls Try.prog 30 #[ptr F, .slice A k.length c] w fun e w' => e = .returned (.int .i64 0) ∧ FlAt w' base F g hs (addF bl k hs) ∧ But g w w' := by
  refine (callsIn_wide (n := 6)).1 ?_
  unfold ptr
  have HF := Aside0.mk hfl
  have HK := Aside0.mk hk
  have HB := Aside0.mk hb
  clear hfl hk hb
  refine callsIn_of_wp_marks Try.func30 rfl trivial ?_ rfl
  simp only [Try.ntmps30, List.size_toArray, List.length_cons, List.length_nil, Nat.reduceAdd, Nat.reduceSub, Array.replicate_succ, Array.replicate_zero, List.push_toArray, List.append_toArray, List.nil_append, List.cons_append]
  have hB1 := (Below.refl w.heap.size w).alloc (Nat.le_refl _) (.cells #[.pointer (some ⟨F, 0, none⟩)] 65)
  have hbx : (w.alloc (.cells #[.pointer (some ⟨F, 0, none⟩)] 65)).heap[w.heap.size]? = some (.cells #[.pointer (some ⟨F, 0, none⟩)] 65 (0, 0)) := al_new rfl
  have HF1 := Aside0.mk (HF.out.below hB1)
  have HK1 := Aside0.mk (HK.out.below hB1)
  have hsz : (w.alloc (.cells #[.pointer (some ⟨F, 0, none⟩)] 65)).heap.size = w.heap.size + 1 := by simp
  gi_wp2_with (first
    | (refine ⟨trivial, ?_⟩; refine (callsIn_wide.2 (made_c HF1.out hh1)).mono ?_; rintro e w2 ⟨rfl, rfl⟩)
    | (refine ⟨trivial, ?_⟩; refine (callsIn_wide.2 (places_c HK1.out hkl HB.out)).mono ?_; rintro e w2 ⟨Bf, Ba, Bb, rfl, hpl, hb2⟩))
  have hFl := blk_lt HF.out.fb
  have hgl := blk_lt HF.out.gb
  have hB2 : Below w.heap.size w w2 := hB1.trans (hb2.mono (by simp))
  have hI0 : AddI w base F g hs bl [] w2 := ⟨HF.out.below hB2, (hb2.block _ (blk_lt hbx)).trans hbx, But.of_below hB2, hFl, hgl⟩
  rw [hsz] at hpl
  have hla := hpl.la
  have hBa := blk_lt hpl.a
  have hs2 := hb2.size
  rw [hsz] at hs2
  have hbs : 0 ≤ stepF k ∧ stepF k < 4294967296 := ⟨bits_lo_u32 _ _ _, by have := bits_hi_u32 .or (moreF (moreF 0 k) [1]) 1; unfold stepF; omega⟩
  have hseq := places1 (n := 5) (by omega) (HF.out.below hB2) hpl hl1 hl2 hh2 (xor_rng _ _) hbs
  refine range_mine (F := Fence.wide) (n := 6) rfl (by omega) (gf := 66) rfl trivial (enters_of Try.func66 (by kernel_rfl) rfl) hseq
    (fun l o hst hl hlo _ => (hst.far (Array.getElem?_eq_some_iff.1 hlo).1 (by omega)).trans hlo) (fun h k => h.trans k) (fun W l o o' _ hl ho _ => Kr.put hl ho)
    (fun xs W l o o' hwl hl ho hS => hS) (Below.refl _ _) (fun _ => rfl)
    (AddI w base F g hs bl) (fun pre A B h hst => h.step hst hla) (fun pre W l o o' hwl hl ho h => h.put (by omega) hl ho) (fun W o h => h.step ⟨rfl, rfl, rfl, by simp, fun k hk _ => Below.heap_alloc _ _ k hk⟩ hla) hI0
    (fun _ _ _ => False) (fun _ _ _ _ h _ => h) (fun _ _ _ _ _ _ _ _ _ h => h)
    (AddR w base F g hs bl A k.length c Bf Ba Bb (8 * bl.length)) (fun pre x a' W l o o' hwl hl ho h => ⟨h.1, h.2.1.put (by omega) hl ho, h.2.2⟩) ?assign ?body ?done (fun _ _ _ _ _ h _ => h.elim)
  case assign =>
    intro l pre x W K hI hX hK
    gi_wp2
    exact hK _ _ ⟨rfl, hI, plF_rng (by omega) hX⟩ (Below.refl _ _) (Kr.refl _)
  case body =>
    rintro l pre x a' W ⟨rfl, ⟨hfl, hbx', hbt, hlt⟩, hx0, hx1⟩
    have y1 : W.cell? ⟨w.heap.size, 0, none⟩ = some (.pointer (some ⟨F, 0, none⟩)) := (blk_cell hbx' 0).trans rfl
    have y2 : W.cell? ⟨F, 0, none⟩ = some (.slice (some ⟨g, 0, none⟩) bl.length bl.length) := by have := (blk_cell hfl.fb 0); rw [setsB_len] at this; exact this.trans rfl
    have hj : (x / 8).toNat < (pre.foldl setB bl).length := by rw [setsB_len]; omega
    have y3 : W.cell? ⟨g, (x / 8).toNat, none⟩ = some (.int .u8 ((pre.foldl setB bl).getD (x / 8).toNat 0)) := (blk_cell hfl.gb _).trans (nums_get hj)
    have y4 : W.frozen? ⟨g, (x / 8).toNat, none⟩ = false := blk_frozen hfl.gb _
    generalize hv : (pre.foldl setB bl).getD (x / 8).toNat 0 = v at y3
    have HV := Aside0.mk hv
    clear hv
    gi_wp2
    refine ⟨KeepsOthers.setCell _ _ _, ⟨by simp [World.setCell], fun k' cs e hk hne => Below.heap_setCell _ _ _ _ (fun e' => ?_)⟩, ⟨⟨(Below.heap_setCell _ _ _ _ hfl.ne).trans ?_, blk_put hfl.gb _ _ ?_, hfl.Fb, hfl.gB⟩, (Below.heap_setCell _ _ _ _ (by show w.heap.size ≠ g; omega)).trans hbx', hbt.trans ⟨rfl, rfl, rfl, by simp [World.setCell], fun k _ hk => Below.heap_setCell _ _ _ _ (fun e => hk (by rw [e]))⟩, hlt⟩⟩
    · subst e'
      rw [hfl.gb] at hk
      simp only [Option.some.injEq, Obj.cells.injEq] at hk
      exact hne hk.2.1.symm
    · have := hfl.fb
      rw [setsB_len] at this ⊢
      exact this
    · rw [List.foldl_append]
      show _ = (nums .u8 (setB (pre.foldl setB bl) x)).toArray
      have e : setB (pre.foldl setB bl) x = (pre.foldl setB bl).set (x / 8).toNat (bits .or .u8 v (2 ^ (x % 8).toNat % 256)) := by rw [← HV.out]; rfl
      rw [e]
      simp [nums, List.map_set]
  case done =>
    rintro D xs W hD hS hI hK
    gi_wp2
    refine ⟨by simp, .inl ⟨_, _, rfl, run_takeDeferred hK, ?_⟩⟩
    have hI2 := hI.put (o' := .deferred none) (by omega) hK rfl
    refine ⟨_, results_tmp rfl _ _ _, rfl, ?_, hI2.bt⟩
    have := hI2.fl
    rw [hS] at this
    exact this
attribute [local go_sem] Oper.semAt_some
/-- Whether a place is set. -/
def hasB (bl : List Int) (p : Int) : Bool := !(bits .and .u8 (bl.getD (p / 8).toNat 0 / 2 ^ (p % 8).toNat) 1 == 0)
structure MayI (w : World) (base F g hs : Nat) (bl : List Int) (pre : List Int) (W : World) : Prop where
  fl : FlAt W base F g hs bl
  bx : W.heap[w.heap.size]? = some (.cells #[.pointer (some ⟨F, 0, none⟩)] 65 (0, 0))
  rb : W.heap[w.heap.size + 1]? = some (.cells #[.bool false] 4 (0, 0))
  be : Below w.heap.size w W
  al : pre.all (hasB bl) = true
  lt : F < w.heap.size ∧ g < w.heap.size
structure MayX (w : World) (bl ps : List Int) (c : Code) (W : World) : Prop where
  rt : c = .ret
  rb : W.heap[w.heap.size + 1]? = some (.cells #[.bool false] 4 (0, 0))
  be : Below w.heap.size w W
  al : ps.all (hasB bl) = false
theorem below_step {w A B : World} {Ba : Nat} (h : Below w.heap.size w A) (k : StepB Ba A B) (hBa : w.heap.size ≤ Ba) : Below w.heap.size w B := h.grown k h.size (fun b e => by cases e; exact hBa)
theorem step_put {W : World} {l : Nat} {o' : Obj} : StepB l W (W.putObj l o') := ⟨rfl, rfl, rfl, by simp, fun k _ hk => World.putObj_heap_other (fun e => hk (by rw [e]))⟩
theorem MayI.step {w A B : World} {base F g hs Ba : Nat} {bl pre : List Int} (h : MayI w base F g hs bl pre A) (hst : StepB Ba A B) (hBa : w.heap.size + 2 ≤ Ba) : MayI w base F g hs bl pre B := by
  obtain ⟨h1, h2, h3, h4, h5, h6⟩ := h
  exact ⟨h1.move (hst.far (blk_lt h1.fb) (by omega)) (hst.far (blk_lt h1.gb) (by omega)), (hst.far (blk_lt h2) (by omega)).trans h2, (hst.far (blk_lt h3) (by omega)).trans h3, below_step h4 hst (by omega), h5, h6⟩
theorem MayI.put {w W : World} {base F g hs : Nat} {bl pre : List Int} {l : Nat} {o o' : Obj} (h : MayI w base F g hs bl pre W) (hw : w.heap.size ≤ l) (hl : W.heap[l]? = some o) (ho : o.isCells = false) : MayI w base F g hs bl pre (W.putObj l o') := by
  obtain ⟨h1, h2, h3, h4, h5, h6⟩ := h
  exact ⟨h1.move (put_far hl ho h1.fb) (put_far hl ho h1.gb), (put_far hl ho h2).trans h2, (put_far hl ho h3).trans h3, below_step h4 step_put hw, h5, h6⟩
theorem MayX.step {w A B : World} {Ba : Nat} {bl ps : List Int} {c : Code} (h : MayX w bl ps c A) (hst : StepB Ba A B) (hBa : w.heap.size + 2 ≤ Ba) : MayX w bl ps c B := by
  obtain ⟨h1, h3, h4, h5⟩ := h
  exact ⟨h1, (hst.far (blk_lt h3) (by omega)).trans h3, below_step h4 hst (by omega), h5⟩
theorem MayX.put {w W : World} {bl ps : List Int} {c : Code} {l : Nat} {o o' : Obj} (h : MayX w bl ps c W) (hw : w.heap.size ≤ l) (hl : W.heap[l]? = some o) (ho : o.isCells = false) : MayX w bl ps c (W.putObj l o') := by
  obtain ⟨h1, h3, h4, h5⟩ := h
  exact ⟨h1, (put_far hl ho h3).trans h3, below_step h4 step_put hw, h5⟩
def MayR (w : World) (base F g hs : Nat) (bl : List Int) (A : Option Addr) (kn c Bf Ba Bb : Nat) (ps pre : List Int) (x : Int) (a : Act) (W : World) : Prop :=
  a = { tmps := #[.pointer (some ⟨F, 0, none⟩), .slice A kn c, .pointer (some ⟨w.heap.size, 0, none⟩), undef, .pointer (some ⟨w.heap.size + 1, 0, none⟩), .int .u32 x, .pointer (some ⟨F, 0, none⟩), .bool true, .bool false, .pointer (some ⟨F, 0, none⟩), .slice A kn c,
    .func (.func 66) #[] #[.pointer (some ⟨Bf, 0, none⟩), .pointer (some ⟨Ba, 0, none⟩), .pointer (some ⟨Bb, 0, none⟩)], .int .u32 x, undef, undef, undef, undef, undef, undef, undef, undef, undef, undef, undef, undef, undef], defers := [] } ∧
  MayI w base F g hs bl pre W ∧ 0 ≤ x ∧ x < 8 * bl.length ∧ pre ++ [x] <+: ps
set_option maxRecDepth 100000 in
set_option maxHeartbeats 4000000 in
theorem bmay_c {w : World} {base F g hs c : Nat} {A : Option Addr} {k bl : List Int} (hfl : FlAt w base F g hs bl) (hk : RdB w A k) (hkl : k.length ≤ 1000000) (hb : Byt k) (hl1 : 1 ≤ bl.length) (hl2 : bl.length ≤ 8192) (hh1 : 1 ≤ hs) (hh2 : hs ≤ 8) :
    Calls Try.prog 40 #[ptr F, .slice A k.length c] w fun e w' => e = .returned (.bool ((plF (moreF 0 k) (stepF k) (8 * bl.length) hs).all (hasB bl))) ∧ Below w.heap.size w w' := by
  refine (callsIn_wide (n := 6)).1 ?_
  unfold ptr
  have HF := Aside0.mk hfl
  have HK := Aside0.mk hk
  have HB := Aside0.mk hb
  clear hfl hk hb
  refine callsIn_of_wp_marks Try.func40 rfl trivial ?_ rfl
  simp only [Try.ntmps40, List.size_toArray, List.length_cons, List.length_nil, Nat.reduceAdd, Nat.reduceSub, Array.replicate_succ, Array.replicate_zero, List.push_toArray, List.append_toArray, List.nil_append, List.cons_append]
  obtain ⟨W1, hW1⟩ : ∃ W1, (w.alloc (.cells #[.pointer (some ⟨F, 0, none⟩)] 65)).alloc (.cells #[.bool false] 4) = W1 := ⟨_, rfl⟩
  have hB1 : Below w.heap.size w W1 := by
    rw [← hW1]
    exact ((Below.refl w.heap.size w).alloc (Nat.le_refl _) _).alloc (by simp) _
  have hbx : W1.heap[w.heap.size]? = some (.cells #[.pointer (some ⟨F, 0, none⟩)] 65 (0, 0)) := by rw [← hW1]; exact al_old (al_new rfl) _
  have hrb : W1.heap[w.heap.size + 1]? = some (.cells #[.bool false] 4 (0, 0)) := by rw [← hW1]; exact al_new (by simp)
  have HF1 := Aside0.mk (HF.out.below hB1)
  have HK1 := Aside0.mk (HK.out.below hB1)
  have hsz : W1.heap.size = w.heap.size + 2 := by rw [← hW1]; simp
  have x1 : W1.cell? ⟨w.heap.size, 0, none⟩ = some (.pointer (some ⟨F, 0, none⟩)) := (blk_cell hbx 0).trans rfl
  gi_wp2_with (first
    | (refine ⟨trivial, ?_⟩; refine (callsIn_wide.2 (made_c HF1.out hh1)).mono ?_; rintro e w2 ⟨rfl, rfl⟩)
    | (refine ⟨trivial, ?_⟩; refine (callsIn_wide.2 (places_c HK1.out hkl HB.out)).mono ?_; rintro e w2 ⟨Bf, Ba, Bb, rfl, hpl, hb2⟩))
  clear hW1
  have hFl := blk_lt HF.out.fb
  have hgl := blk_lt HF.out.gb
  have hB2 : Below w.heap.size w w2 := hB1.trans (hb2.mono (by omega))
  have hI0 : MayI w base F g hs bl [] w2 := ⟨HF.out.below hB2, (hb2.block _ (blk_lt hbx)).trans hbx, (hb2.block _ (blk_lt hrb)).trans hrb, hB2, rfl, hFl, hgl⟩
  rw [hsz] at hpl
  have hla := hpl.la
  have hBa := blk_lt hpl.a
  have hs2 := hb2.size
  rw [hsz] at hs2
  have hbs : 0 ≤ stepF k ∧ stepF k < 4294967296 := ⟨bits_lo_u32 _ _ _, by have := bits_hi_u32 .or (moreF (moreF 0 k) [1]) 1; unfold stepF; omega⟩
  have hseq := places1 (n := 5) (by omega) (HF.out.below hB2) hpl hl1 hl2 hh2 (xor_rng _ _) hbs
  generalize hps : plF (moreF 0 k) (stepF k) (8 * bl.length) hs = ps at hseq ⊢
  refine range_mine (F := Fence.wide) (n := 6) rfl (by omega) (gf := 66) rfl trivial (enters_of Try.func66 (by kernel_rfl) rfl) hseq
    (fun l o hst hl hlo _ => (hst.far (Array.getElem?_eq_some_iff.1 hlo).1 (by omega)).trans hlo) (fun h k => h.trans k) (fun W l o o' _ hl ho _ => Kr.put hl ho)
    (fun xs W l o o' hwl hl ho hS => hS) (Below.refl _ _) (fun _ => rfl)
    (MayI w base F g hs bl) (fun pre A B h hst => h.step hst hla) (fun pre W l o o' hwl hl ho h => h.put (by omega) hl ho) (fun W o h => h.step ⟨rfl, rfl, rfl, by simp, fun k hk _ => Below.heap_alloc _ _ k hk⟩ hla) hI0
    (fun c _ => MayX w bl ps c) (fun c pre A B h hst => h.step hst hla) (fun c pre W l o o' hwl hl ho h => h.put (by omega) hl ho)
    (MayR w base F g hs bl A k.length c Bf Ba Bb ps) (fun pre x a' W l o o' hwl hl ho h => ⟨h.1, h.2.1.put (by omega) hl ho, h.2.2⟩) ?assign ?body ?done ?stop
  case assign =>
    intro l pre x W K hI hX hK
    have hX' := hX
    rw [← hps] at hX'
    have hr := plF_rng (by omega) hX'
    gi_wp2
    exact hK _ _ ⟨rfl, hI, hr.1, hr.2, hX⟩ (Below.refl _ _) (Kr.refl _)
  case body =>
    rintro l pre x a' W ⟨rfl, ⟨hfl, hbx', hrb', hbe, hal, hlt⟩, hx0, hx1, hX⟩
    have y1 : W.cell? ⟨w.heap.size, 0, none⟩ = some (.pointer (some ⟨F, 0, none⟩)) := (blk_cell hbx' 0).trans rfl
    have y2 : W.cell? ⟨F, 0, none⟩ = some (.slice (some ⟨g, 0, none⟩) bl.length bl.length) := (blk_cell hfl.fb 0).trans rfl
    have hj : (x / 8).toNat < bl.length := by omega
    have y3 : W.cell? ⟨g, (x / 8).toNat, none⟩ = some (.int .u8 (bl.getD (x / 8).toNat 0)) := (blk_cell hfl.gb _).trans (nums_get hj)
    have y5 : W.cell? ⟨w.heap.size + 1, 0, none⟩ = some (.bool false) := (blk_cell hrb' 0).trans rfl
    have y6 : W.frozen? ⟨w.heap.size + 1, 0, none⟩ = false := blk_frozen hrb' 0
    generalize hv : bl.getD (x / 8).toNat 0 = v at y3
    have HV := Aside0.mk hv
    clear hv
    gi_wp2
    · rename_i hz
      have hx : hasB bl x = false := by
        unfold hasB
        rw [HV.out, hz]
        rfl
      refine ⟨KeepsOthers.setCell _ _ _, rfl, blk_put hrb' 0 _ rfl, hbe.setCell (p := ⟨w.heap.size + 1, 0, none⟩) (by simp) _, ?_⟩
      refine Bool.eq_false_iff.2 (fun h => ?_)
      rw [List.all_eq_true] at h
      rw [h x (hX.subset (by simp))] at hx
      cases hx
    · rename_i hz
      have hx : hasB bl x = true := by
        unfold hasB
        rw [HV.out, hz]
        rfl
      exact ⟨KeepsOthers.refl _, Kr.refl _, hfl, hbx', hrb', hbe, by rw [List.all_append, hal]; simp [hx], hlt⟩
  case done =>
    rintro D xs W hD rfl hI hK
    have y5 : W.cell? ⟨w.heap.size + 1, 0, none⟩ = some (.bool false) := (blk_cell hI.rb 0).trans rfl
    have y6 : W.frozen? ⟨w.heap.size + 1, 0, none⟩ = false := blk_frozen hI.rb 0
    gi_wp2
    have hrb2 := blk_put hI.rb 0 (.bool true) rfl
    have hK' : (W.setCell ⟨w.heap.size + 1, 0, none⟩ (.bool true)).heap[D]? = some (.deferred (some [])) := (KeepsOthers.setCell W ⟨w.heap.size + 1, 0, none⟩ (.bool true)).same D _ hK rfl
    refine ⟨by simp, .inl ⟨_, _, rfl, run_takeDeferred hK', ?_⟩⟩
    have hc5 : ((W.setCell ⟨w.heap.size + 1, 0, none⟩ (.bool true)).putObj D (.deferred none)).cell? ⟨w.heap.size + 1, 0, none⟩ = some (.bool true) := (blk_cell ((put_far hK' rfl hrb2).trans hrb2) 0).trans rfl
    refine ⟨.bool true, ?_, by rw [hps, hI.al], below_step (hI.be.setCell (p := ⟨w.heap.size + 1, 0, none⟩) (by simp) _) step_put (by omega)⟩
    simp [results, Try.f40, go_sem, hc5]
  case stop =>
    rintro D c xs W hD ⟨rfl, hrb', hbe, hal⟩ hK
    gi_wp2
    refine ⟨by simp, .inl ⟨_, _, rfl, run_takeDeferred hK, ?_⟩⟩
    have hc5 : (W.putObj D (.deferred none)).cell? ⟨w.heap.size + 1, 0, none⟩ = some (.bool false) := (blk_cell ((put_far hK rfl hrb').trans hrb') 0).trans rfl
    refine ⟨.bool false, ?_, by rw [hps, hal], below_step hbe step_put (by omega)⟩
    simp [results, Try.f40, go_sem, hc5]
end Go.Proofs.Ythabkdbhjioalaa.Top
namespace Go.Proofs.Ythabkdbhjioalaa.Top
set_option linter.unusedSimpArgs false
set_option linter.unusedVariables false
open Go.RowKit Go.Proofs.YthabkdbhjioalaaW.PrintWords Go.Proofs.YthabkdbhjioalaaW.PrintLast Go.Proofs.YthabkdbhjioalaaW.PrintMore Go.Proofs.Ythabkdbhjioalaa.Plain
theorem bits_or8 (n m : Nat) (hn : n < 256) (hm : m < 256) : bits .or .u8 (n : Int) (m : Int) = ((n ||| m : Nat) : Int) := by
  have h : n ||| m < 2 ^ 8 := Nat.or_lt_two_pow hn hm
  show IntKind.u8.wrap ((((BitVec.ofInt 8 (n : Int)) ||| (BitVec.ofInt 8 (m : Int))).toNat : Nat) : Int) = _
  rw [BitVec.ofInt_natCast, BitVec.ofInt_natCast, BitVec.toNat_or, BitVec.toNat_ofNat, BitVec.toNat_ofNat]
  rw [Nat.mod_eq_of_lt (show n < 2 ^ 8 from hn), Nat.mod_eq_of_lt (show m < 2 ^ 8 from hm), IntWalk.u8_in _ (by omega)]
theorem bits_and8 (n m : Nat) (hn : n < 256) (hm : m < 256) : bits .and .u8 (n : Int) (m : Int) = ((n &&& m : Nat) : Int) := by
  have h : n &&& m ≤ n := Nat.and_le_left
  show IntKind.u8.wrap ((((BitVec.ofInt 8 (n : Int)) &&& (BitVec.ofInt 8 (m : Int))).toNat : Nat) : Int) = _
  rw [BitVec.ofInt_natCast, BitVec.ofInt_natCast, BitVec.toNat_and, BitVec.toNat_ofNat, BitVec.toNat_ofNat]
  rw [Nat.mod_eq_of_lt (show n < 2 ^ 8 from hn), Nat.mod_eq_of_lt (show m < 2 ^ 8 from hm), IntWalk.u8_in _ (by omega)]
theorem byt_get {bl : List Int} (hb : Byt bl) (j : Nat) : 0 ≤ bl.getD j 0 ∧ bl.getD j 0 < 256 := by
  rw [List.getD_eq_getElem?_getD]
  by_cases h : j < bl.length
  · rw [List.getElem?_eq_getElem h]
    have := hb _ (List.getElem_mem h)
    simpa using this
  · rw [List.getElem?_eq_none (by omega)]
    simp
theorem hasB_eq {bl : List Int} (hb : Byt bl) (p : Int) : hasB bl p = (bl.getD (p / 8).toNat 0).toNat.testBit (p % 8).toNat := by
  have hg := byt_get hb (p / 8).toNat
  unfold hasB
  generalize bl.getD (p / 8).toNat 0 = v at hg
  obtain ⟨n, rfl⟩ := Int.eq_ofNat_of_zero_le hg.1
  generalize (p % 8).toNat = i
  have hd : n / 2 ^ i ≤ n := Nat.div_le_self _ _
  have e : ((n : Int) / 2 ^ i) = ((n / 2 ^ i : Nat) : Int) := by push_cast; rfl
  have e1 : (1 : Int) = ((1 : Nat) : Int) := rfl
  rw [e, e1, bits_and8 _ _ (by omega) (by decide), Nat.and_one_is_mod, Int.toNat_natCast, Nat.testBit_eq_decide_div_mod_eq]
  rcases Nat.mod_two_eq_zero_or_one (n / 2 ^ i) with h | h <;> simp [h]
theorem setB_new {bl : List Int} (hb : Byt bl) (p : Int) : ∃ m : Nat, m < 256 ∧ bits .or .u8 (bl.getD (p / 8).toNat 0) (2 ^ (p % 8).toNat % 256) = (m : Int) ∧ m = (bl.getD (p / 8).toNat 0).toNat ||| 2 ^ (p % 8).toNat := by
  have hg := byt_get hb (p / 8).toNat
  generalize bl.getD (p / 8).toNat 0 = v at hg
  obtain ⟨n, rfl⟩ := Int.eq_ofNat_of_zero_le hg.1
  have hi : (p % 8).toNat < 8 := by omega
  generalize (p % 8).toNat = i at hi
  have hp : 2 ^ i < 256 := Nat.pow_lt_pow_right (a := 2) (by decide) hi
  have e : ((2 : Int) ^ i % 256) = ((2 ^ i : Nat) : Int) := by
    rw [show (2 : Int) ^ i = ((2 ^ i : Nat) : Int) by push_cast; rfl]
    generalize 2 ^ i = z at hp
    omega
  refine ⟨n ||| 2 ^ i, Nat.or_lt_two_pow (n := 8) (by omega) hp, ?_, by simp⟩
  rw [e, bits_or8 _ _ (by omega) hp]
theorem byt_set {bl : List Int} (hb : Byt bl) (p : Int) : Byt (setB bl p) := by
  obtain ⟨m, hm, he, _⟩ := setB_new hb p
  intro n hn
  unfold setB at hn
  rw [he] at hn
  rcases List.mem_or_eq_of_mem_set hn with h | h
  · exact hb n h
  · subst h
    omega
theorem hasB_same {bl : List Int} (hb : Byt bl) {p : Int} (h0 : 0 ≤ p) (h1 : p < 8 * bl.length) : hasB (setB bl p) p = true := by
  rw [hasB_eq (byt_set hb p)]
  obtain ⟨m, hm, he, hm2⟩ := setB_new hb p
  unfold setB
  rw [he, List.getD_eq_getElem?_getD, List.getElem?_set_self (by omega)]
  simp only [Option.getD_some, Int.toNat_natCast]
  rw [hm2, Nat.testBit_or, Nat.testBit_two_pow_self, Bool.or_true]
theorem hasB_mono {bl : List Int} (hb : Byt bl) (p : Int) {q : Int} (h : hasB bl q = true) : hasB (setB bl p) q = true := by
  rw [hasB_eq (byt_set hb p)]
  rw [hasB_eq hb] at h
  obtain ⟨m, hm, he, hm2⟩ := setB_new hb p
  unfold setB
  rw [he]
  by_cases hq : (q / 8).toNat = (p / 8).toNat
  · by_cases hl : (p / 8).toNat < bl.length
    · rw [hq, List.getD_eq_getElem?_getD, List.getElem?_set_self hl]
      rw [hq] at h
      simp only [Option.getD_some, Int.toNat_natCast]
      rw [hm2, Nat.testBit_or, h, Bool.true_or]
    · rw [List.set_eq_of_length_le (by omega)]
      exact h
  · rw [List.getD_eq_getElem?_getD, List.getElem?_set_ne (Ne.symm hq), ← List.getD_eq_getElem?_getD]
    exact h
theorem byt_sets {bl : List Int} (hb : Byt bl) : ∀ ps : List Int, Byt (ps.foldl setB bl) := fun ps => by
  induction ps generalizing bl with
  | nil => exact hb
  | cons p ps ih => exact ih (byt_set hb p)
theorem hasB_sets {bl : List Int} (hb : Byt bl) {q : Int} (h : hasB bl q = true) : ∀ ps : List Int, hasB (ps.foldl setB bl) q = true := fun ps => by
  induction ps generalizing bl with
  | nil => exact h
  | cons p ps ih => exact ih (byt_set hb p) (hasB_mono hb p h)
theorem hasB_all {bl : List Int} (hb : Byt bl) : ∀ ps : List Int, (∀ p ∈ ps, 0 ≤ p ∧ p < 8 * bl.length) → ps.all (hasB (ps.foldl setB bl)) = true := fun ps => by
  induction ps generalizing bl with
  | nil => exact fun _ => rfl
  | cons p ps ih =>
    intro h
    have hp := h p (by simp)
    rw [List.all_cons, List.foldl_cons, hasB_sets (byt_set hb p) (hasB_same hb hp.1 hp.2) ps, Bool.true_and]
    exact ih (byt_set hb p) (fun q hq => by rw [setB_len]; exact h q (by simp [hq]))
/-- Whether a filter may hold a key. -/
def mayF (bl k : List Int) (hs : Nat) : Bool := (plF (moreF 0 k) (stepF k) (8 * bl.length) hs).all (hasB bl)
theorem addF_len (bl k : List Int) (hs : Nat) : (addF bl k hs).length = bl.length := setsB_len _ _
theorem addF_byt {bl : List Int} (hb : Byt bl) (k : List Int) (hs : Nat) : Byt (addF bl k hs) := byt_sets hb _
theorem mayF_add {bl : List Int} (hb : Byt bl) (hl : 1 ≤ bl.length) (k : List Int) (hs : Nat) : mayF (addF bl k hs) k hs = true := by
  unfold mayF
  rw [addF_len]
  exact hasB_all hb _ (plF_all (by omega) _ _ _)
theorem mayF_mono {bl : List Int} (hb : Byt bl) (k k' : List Int) (hs : Nat) (h : mayF bl k hs = true) : mayF (addF bl k' hs) k hs = true := by
  unfold mayF at *
  rw [addF_len]
  rw [List.all_eq_true] at h ⊢
  exact fun x hx => hasB_sets hb (h x hx) _
end Go.Proofs.Ythabkdbhjioalaa.Top
