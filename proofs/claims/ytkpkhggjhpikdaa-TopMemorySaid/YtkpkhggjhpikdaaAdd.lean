/-
  What Add sets in a filter, and what May tells; conditions: those that each theorem states.
-/
import Derived.Test.YtkpkhggjhpikdaaPlaces
namespace Go.Proofs.Ytkpkhggjhpikdaa.Top
set_option linter.unusedSimpArgs false
set_option linter.unusedVariables false
open Go.RowKit Go.Shelf Go.Proofs.YtkpkhggjhpikdaaW.PrintWords Go.Proofs.YtkpkhggjhpikdaaW.PrintLast Go.Proofs.YtkpkhggjhpikdaaW.PrintMore Go.Proofs.Ytkpkhggjhpikdaa.Plain
attribute [local go_sem] Oper.semAt_some
/-- What is left of memory by a call that writes one block. -/
def But (g : Nat) (w W : World) : Prop := w.grownBy W (some g)
theorem But.trans {g : Nat} {A B C : World} (h : But g A B) (k : But g B C) : But g A C := ⟨k.os.trans h.os, k.tape.trans h.tape, k.output.trans h.output, Nat.le_trans h.size k.size, fun b hb hg => (k.block b (Nat.lt_of_lt_of_le hb h.size) hg).trans (h.block b hb hg)⟩
theorem But.of_below {g : Nat} {A B : World} (h : Below A.heap.size A B) : But g A B := ⟨h.os, h.tape, h.output, h.size, fun b hb _ => h.block b hb⟩
theorem But.of_step {g Ba : Nat} {w A B : World} (h : But g w A) (k : StepB Ba A B) (hBa : w.heap.size ≤ Ba) : But g w B := ⟨k.os.trans h.os, k.tape.trans h.tape, k.output.trans h.output, Nat.le_trans h.size k.size, fun b hb hg => (k.far (Nat.lt_of_lt_of_le hb h.size) (by omega)).trans (h.block b hb hg)⟩
theorem nums_get {l : List Int} {j : Nat} (hj : j < l.length) : (nums .u8 l).toArray[j]? = some (.int .u8 (l.getD j 0)) := by
  simp [nums, hj]
/-- One place is set. -/
def setB (bl : List Int) (p : Int) : List Int := bl.set (p / 8).toNat (bits .or .u8 (bl.getD (p / 8).toNat 0) (2 ^ (p % 8).toNat % 256))
theorem setB_len (bl : List Int) (p : Int) : (setB bl p).length = bl.length := by simp [setB]
theorem setsB_len (bl : List Int) : ∀ ps : List Int, (ps.foldl setB bl).length = bl.length := fun ps => by
  induction ps generalizing bl with
  | nil => rfl
  | cons p ps ih => rw [List.foldl_cons, ih, setB_len]
/-- What a key's places set. -/
def addF (bl k : List Int) (hs : Nat) : List Int := (plF (moreF 0 k) (stepF k) (8 * bl.length) hs).foldl setB bl
structure AddI (w : World) (base F g hs : Nat) (bl pre : List Int) (W : World) : Prop where
  fl : FlAt W base F g hs (pre.foldl setB bl)
  bx : W.heap[w.heap.size]? = some (.cells #[.pointer (some ⟨F, 0, none⟩)] 28 (0, 0))
  bt : But g w W
  lt : F < w.heap.size ∧ g < w.heap.size
theorem AddI.step {w A B : World} {base F g hs Ba : Nat} {bl pre : List Int} (h : AddI w base F g hs bl pre A) (hst : StepB Ba A B) (hBa : w.heap.size + 1 ≤ Ba) : AddI w base F g hs bl pre B := by
  obtain ⟨h1, h2, h3, h4⟩ := h
  exact ⟨h1.move (hst.far (blk_lt h1.fb) (by omega)) (hst.far (blk_lt h1.gb) (by omega)), (hst.far (blk_lt h2) (by omega)).trans h2,
    h3.of_step hst (by omega), h4⟩
theorem AddI.put {w W : World} {base F g hs : Nat} {bl pre : List Int} {l : Nat} {o o' : Obj} (h : AddI w base F g hs bl pre W) (hw : w.heap.size ≤ l) (hl : W.heap[l]? = some o) (ho : o.isCells = false) : AddI w base F g hs bl pre (W.putObj l o') := by
  obtain ⟨h1, h2, h3, h4⟩ := h
  exact ⟨h1.move (put_far hl ho h1.fb) (put_far hl ho h1.gb), (put_far hl ho h2).trans h2, h3.of_step (Ba := l) ⟨rfl, rfl, rfl, by simp, fun k _ hk => World.putObj_heap_other (fun e => hk (by rw [e]))⟩ hw, h4⟩
theorem Kr.put {W : World} {l : Nat} {o o' : Obj} (hl : W.heap[l]? = some o) (ho : o.isCells = false) : Kr W (W.putObj l o') := ⟨Nat.le_of_eq (put_size W l o').symm, fun k cs e hk _ => put_far hl ho hk⟩
theorem Kr.trans {A B C : World} (h : Kr A B) (k : Kr B C) : Kr A C := ⟨Nat.le_trans h.1 k.1, fun b cs e hb h1 => (k.2 b cs e ((h.2 b cs e hb h1).trans hb) h1).trans (h.2 b cs e hb h1)⟩
theorem Kr.refl (A : World) : Kr A A := ⟨Nat.le_refl _, fun _ _ _ _ _ => rfl⟩
def AddR (w : World) (base F g hs : Nat) (bl : List Int) (A : Option Addr) (kn c Bf Ba Bb : Nat) (M : Int) (pre : List Int) (x : Int) (a : Act) (W : World) : Prop :=
  a = { tmps := #[.pointer (some ⟨F, 0, none⟩), .slice A kn c, .pointer (some ⟨w.heap.size, 0, none⟩), undef, .int .i64 0, .int .u32 x, .pointer (some ⟨F, 0, none⟩), .bool true, .bool false, .pointer (some ⟨F, 0, none⟩), .slice A kn c,
    .func (.func 41) #[] #[.pointer (some ⟨Bf, 0, none⟩), .pointer (some ⟨Ba, 0, none⟩), .pointer (some ⟨Bb, 0, none⟩)], .int .u32 x, undef, undef, undef, undef, undef, undef, undef, undef, undef, undef, undef, undef, undef], defers := [] } ∧
  AddI w base F g hs bl pre W ∧ 0 ≤ x ∧ x < M
theorem plF_all {M : Int} (hM : 0 < M) : ∀ (n : Nat) (a b : Int), ∀ x ∈ plF a b M n, 0 ≤ x ∧ x < M
  | 0, _, _, _, h => by cases h
  | n + 1, a, b, x, h => by
    rcases List.mem_cons.1 h with rfl | h
    · exact ⟨Int.emod_nonneg _ (by omega), Int.emod_lt_of_pos _ hM⟩
    · exact plF_all hM n _ _ x h
theorem plF_rng {M a b x : Int} {n : Nat} {pre : List Int} (hM : 0 < M) (h : pre ++ [x] <+: plF a b M n) : 0 ≤ x ∧ x < M := plF_all hM n a b x (h.subset (by simp))
set_option maxRecDepth 100000 in
set_option maxHeartbeats 4000000 in
theorem badd_c {w : World} {base F g hs c : Nat} {A : Option Addr} {k bl : List Int} (hfl : FlAt w base F g hs bl) (hk : RdB w A k) (hkl : k.length ≤ 1000000) (hb : Byt k) (hl1 : 1 ≤ bl.length) (hl2 : bl.length ≤ 8192) (hh1 : 1 ≤ hs) (hh2 : hs ≤ 8) :
    Calls Try.prog 11 #[ptr F, .slice A k.length c] w fun e w' => e = .returned (.int .i64 0) ∧ FlAt w' base F g hs (addF bl k hs) ∧ But g w w' := by
  refine (callsIn_wide (n := 6)).1 ?_
  unfold ptr
  have HF := Aside0.mk hfl
  have HK := Aside0.mk hk
  have HB := Aside0.mk hb
  clear hfl hk hb
  refine callsIn_of_wp_marks Try.func11 rfl trivial ?_ rfl
  simp only [Try.ntmps11, List.size_toArray, List.length_cons, List.length_nil, Nat.reduceAdd, Nat.reduceSub, Array.replicate_succ, Array.replicate_zero, List.push_toArray, List.append_toArray, List.nil_append, List.cons_append]
  have hB1 := (Below.refl w.heap.size w).alloc (Nat.le_refl _) (.cells #[.pointer (some ⟨F, 0, none⟩)] 28)
  have hbx : (w.alloc (.cells #[.pointer (some ⟨F, 0, none⟩)] 28)).heap[w.heap.size]? = some (.cells #[.pointer (some ⟨F, 0, none⟩)] 28 (0, 0)) := al_new rfl
  have HF1 := Aside0.mk (HF.out.below hB1)
  have HK1 := Aside0.mk (HK.out.below hB1)
  have hsz : (w.alloc (.cells #[.pointer (some ⟨F, 0, none⟩)] 28)).heap.size = w.heap.size + 1 := by simp
  gi_wp2_with (first
    | (refine ⟨trivial, ?_⟩; refine (callsIn_wide.2 (made_c HF1.out hh1)).mono ?_; rintro e w2 ⟨rfl, rfl⟩)
    | (refine ⟨trivial, ?_⟩; refine (callsIn_wide.2 (places_c HK1.out hkl HB.out)).mono ?_; rintro e w2 ⟨Bf, Ba, Bb, rfl, hpl, hb2⟩))
  have hFl := blk_lt HF.out.fb
  have hgl := blk_lt HF.out.gb
  have hB2 : Below w.heap.size w w2 := hB1.trans (hb2.mono (by simp))
  have hI0 : AddI w base F g hs bl [] w2 := ⟨HF.out.below hB2, (hb2.block _ (blk_lt hbx)).trans hbx, But.of_below hB2, hFl, hgl⟩
  rw [hsz] at hpl
  have hla := hpl.la
  have hBa := blk_lt hpl.a
  have hs2 := hb2.size
  rw [hsz] at hs2
  have hbs : 0 ≤ stepF k ∧ stepF k < 4294967296 := ⟨bits_lo_u32 _ _ _, by have := bits_hi_u32 .or (moreF (moreF 0 k) [1]) 1; unfold stepF; omega⟩
  have hseq := places1 (n := 5) (by omega) (HF.out.below hB2) hpl hl1 hl2 hh2 (xor_rng _ _) hbs
  refine range_mine (F := Fence.wide) (n := 6) rfl (by omega) (gf := 41) rfl trivial (enters_of Try.func41 (by kernel_rfl) rfl) hseq
    (fun l o hst hl hlo _ => (hst.far (Array.getElem?_eq_some_iff.1 hlo).1 (by omega)).trans hlo) (fun h k => h.trans k) (fun W l o o' _ hl ho _ => Kr.put hl ho)
    (fun xs W l o o' hwl hl ho hS => hS) (Below.refl _ _) (fun _ => rfl)
    (AddI w base F g hs bl) (fun pre A B h hst => h.step hst hla) (fun pre W l o o' hwl hl ho h => h.put (by omega) hl ho) (fun W o h => h.step ⟨rfl, rfl, rfl, by simp, fun k hk _ => Below.heap_alloc _ _ k hk⟩ hla) hI0
    (fun _ _ _ => False) (fun _ _ _ _ h _ => h) (fun _ _ _ _ _ _ _ _ _ h => h)
    (AddR w base F g hs bl A k.length c Bf Ba Bb (8 * bl.length)) (fun pre x a' W l o o' hwl hl ho h => ⟨h.1, h.2.1.put (by omega) hl ho, h.2.2⟩) ?assign ?body ?done (fun _ _ _ _ _ h _ => h.elim)
  case assign =>
    intro l pre x W K hI hX hK
    gi_wp2
    exact hK _ _ ⟨rfl, hI, plF_rng (by omega) hX⟩ (Below.refl _ _) (Kr.refl _)
  case body =>
    rintro l pre x a' W ⟨rfl, ⟨hfl, hbx', hbt, hlt⟩, hx0, hx1⟩
    have y1 : W.cell? ⟨w.heap.size, 0, none⟩ = some (.pointer (some ⟨F, 0, none⟩)) := (blk_cell hbx' 0).trans rfl
    have y2 : W.cell? ⟨F, 0, none⟩ = some (.slice (some ⟨g, 0, none⟩) bl.length bl.length) := by have := (blk_cell hfl.fb 0); rw [setsB_len] at this; exact this.trans rfl
    have hj : (x / 8).toNat < (pre.foldl setB bl).length := by rw [setsB_len]; omega
    have y3 : W.cell? ⟨g, (x / 8).toNat, none⟩ = some (.int .u8 ((pre.foldl setB bl).getD (x / 8).toNat 0)) := (blk_cell hfl.gb _).trans (nums_get hj)
    have y4 : W.frozen? ⟨g, (x / 8).toNat, none⟩ = false := blk_frozen hfl.gb _
    generalize hv : (pre.foldl setB bl).getD (x / 8).toNat 0 = v at y3
    have HV := Aside0.mk hv
    clear hv
    gi_wp2
    refine ⟨KeepsOthers.setCell _ _ _, ⟨by simp [World.setCell], fun k' cs e hk hne => Below.heap_setCell _ _ _ _ (fun e' => ?_)⟩, ⟨⟨(Below.heap_setCell _ _ _ _ hfl.ne).trans ?_, blk_put hfl.gb _ _ ?_, hfl.Fb, hfl.gB⟩, (Below.heap_setCell _ _ _ _ (by show w.heap.size ≠ g; omega)).trans hbx', hbt.trans ⟨rfl, rfl, rfl, by simp [World.setCell], fun k _ hk => Below.heap_setCell _ _ _ _ (fun e => hk (by rw [e]))⟩, hlt⟩⟩
    · subst e'
      rw [hfl.gb] at hk
      simp only [Option.some.injEq, Obj.cells.injEq] at hk
      exact hne hk.2.1.symm
    · have := hfl.fb
      rw [setsB_len] at this ⊢
      exact this
    · rw [List.foldl_append]
      show _ = (nums .u8 (setB (pre.foldl setB bl) x)).toArray
      have e : setB (pre.foldl setB bl) x = (pre.foldl setB bl).set (x / 8).toNat (bits .or .u8 v (2 ^ (x % 8).toNat % 256)) := by rw [← HV.out]; rfl
      rw [e]
      simp [nums, List.map_set]
  case done =>
    rintro D xs W hD hS hI hK
    gi_wp2
    refine ⟨by simp, .inl ⟨_, _, rfl, run_takeDeferred hK, ?_⟩⟩
    have hI2 := hI.put (o' := .deferred none) (by omega) hK rfl
    refine ⟨_, results_tmp rfl _ _ _, rfl, ?_, hI2.bt⟩
    have := hI2.fl
    rw [hS] at this
    exact this
end Go.Proofs.Ytkpkhggjhpikdaa.Top
