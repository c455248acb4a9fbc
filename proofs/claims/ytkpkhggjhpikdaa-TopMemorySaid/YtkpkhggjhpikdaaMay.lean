/-
  What Add sets in a filter, and what May tells; conditions: those that each theorem states.
-/
import Derived.Test.YtkpkhggjhpikdaaAdd
namespace Go.Proofs.Ytkpkhggjhpikdaa.Top
set_option linter.unusedSimpArgs false
set_option linter.unusedVariables false
open Go.RowKit Go.Shelf Go.Proofs.YtkpkhggjhpikdaaW.PrintWords Go.Proofs.YtkpkhggjhpikdaaW.PrintLast Go.Proofs.YtkpkhggjhpikdaaW.PrintMore Go.Proofs.Ytkpkhggjhpikdaa.Plain
attribute [local go_sem] Oper.semAt_some
/-- Whether a place is set. -/
def hasB (bl : List Int) (p : Int) : Bool := !(bits .and .u8 (bl.getD (p / 8).toNat 0 / 2 ^ (p % 8).toNat) 1 == 0)
structure MayI (w : World) (base F g hs : Nat) (bl : List Int) (pre : List Int) (W : World) : Prop where
  fl : FlAt W base F g hs bl
  bx : W.heap[w.heap.size]? = some (.cells #[.pointer (some ⟨F, 0, none⟩)] 28 (0, 0))
  rb : W.heap[w.heap.size + 1]? = some (.cells #[.bool false] 4 (0, 0))
  be : Below w.heap.size w W
  al : pre.all (hasB bl) = true
  lt : F < w.heap.size ∧ g < w.heap.size
structure MayX (w : World) (bl ps : List Int) (c : Code) (W : World) : Prop where
  rt : c = .ret
  rb : W.heap[w.heap.size + 1]? = some (.cells #[.bool false] 4 (0, 0))
  be : Below w.heap.size w W
  al : ps.all (hasB bl) = false
theorem below_step {w A B : World} {Ba : Nat} (h : Below w.heap.size w A) (k : StepB Ba A B) (hBa : w.heap.size ≤ Ba) : Below w.heap.size w B := h.grown k h.size (fun b e => by cases e; exact hBa)
theorem step_put {W : World} {l : Nat} {o' : Obj} : StepB l W (W.putObj l o') := ⟨rfl, rfl, rfl, by simp, fun k _ hk => World.putObj_heap_other (fun e => hk (by rw [e]))⟩
theorem MayI.step {w A B : World} {base F g hs Ba : Nat} {bl pre : List Int} (h : MayI w base F g hs bl pre A) (hst : StepB Ba A B) (hBa : w.heap.size + 2 ≤ Ba) : MayI w base F g hs bl pre B := by
  obtain ⟨h1, h2, h3, h4, h5, h6⟩ := h
  exact ⟨h1.move (hst.far (blk_lt h1.fb) (by omega)) (hst.far (blk_lt h1.gb) (by omega)), (hst.far (blk_lt h2) (by omega)).trans h2, (hst.far (blk_lt h3) (by omega)).trans h3, below_step h4 hst (by omega), h5, h6⟩
theorem MayI.put {w W : World} {base F g hs : Nat} {bl pre : List Int} {l : Nat} {o o' : Obj} (h : MayI w base F g hs bl pre W) (hw : w.heap.size ≤ l) (hl : W.heap[l]? = some o) (ho : o.isCells = false) : MayI w base F g hs bl pre (W.putObj l o') := by
  obtain ⟨h1, h2, h3, h4, h5, h6⟩ := h
  exact ⟨h1.move (put_far hl ho h1.fb) (put_far hl ho h1.gb), (put_far hl ho h2).trans h2, (put_far hl ho h3).trans h3, below_step h4 step_put hw, h5, h6⟩
theorem MayX.step {w A B : World} {Ba : Nat} {bl ps : List Int} {c : Code} (h : MayX w bl ps c A) (hst : StepB Ba A B) (hBa : w.heap.size + 2 ≤ Ba) : MayX w bl ps c B := by
  obtain ⟨h1, h3, h4, h5⟩ := h
  exact ⟨h1, (hst.far (blk_lt h3) (by omega)).trans h3, below_step h4 hst (by omega), h5⟩
theorem MayX.put {w W : World} {bl ps : List Int} {c : Code} {l : Nat} {o o' : Obj} (h : MayX w bl ps c W) (hw : w.heap.size ≤ l) (hl : W.heap[l]? = some o) (ho : o.isCells = false) : MayX w bl ps c (W.putObj l o') := by
  obtain ⟨h1, h3, h4, h5⟩ := h
  exact ⟨h1, (put_far hl ho h3).trans h3, below_step h4 step_put hw, h5⟩
def MayR (w : World) (base F g hs : Nat) (bl : List Int) (A : Option Addr) (kn c Bf Ba Bb : Nat) (ps pre : List Int) (x : Int) (a : Act) (W : World) : Prop :=
  a = { tmps := #[.pointer (some ⟨F, 0, none⟩), .slice A kn c, .pointer (some ⟨w.heap.size, 0, none⟩), undef, .pointer (some ⟨w.heap.size + 1, 0, none⟩), .int .u32 x, .pointer (some ⟨F, 0, none⟩), .bool true, .bool false, .pointer (some ⟨F, 0, none⟩), .slice A kn c,
    .func (.func 41) #[] #[.pointer (some ⟨Bf, 0, none⟩), .pointer (some ⟨Ba, 0, none⟩), .pointer (some ⟨Bb, 0, none⟩)], .int .u32 x, undef, undef, undef, undef, undef, undef, undef, undef, undef, undef, undef, undef, undef], defers := [] } ∧
  MayI w base F g hs bl pre W ∧ 0 ≤ x ∧ x < 8 * bl.length ∧ pre ++ [x] <+: ps
set_option maxRecDepth 100000 in
set_option maxHeartbeats 4000000 in
theorem bmay_c {w : World} {base F g hs c : Nat} {A : Option Addr} {k bl : List Int} (hfl : FlAt w base F g hs bl) (hk : RdB w A k) (hkl : k.length ≤ 1000000) (hb : Byt k) (hl1 : 1 ≤ bl.length) (hl2 : bl.length ≤ 8192) (hh1 : 1 ≤ hs) (hh2 : hs ≤ 8) :
    Calls Try.prog 14 #[ptr F, .slice A k.length c] w fun e w' => e = .returned (.bool ((plF (moreF 0 k) (stepF k) (8 * bl.length) hs).all (hasB bl))) ∧ Below w.heap.size w w' := by
  refine (callsIn_wide (n := 6)).1 ?_
  unfold ptr
  have HF := Aside0.mk hfl
  have HK := Aside0.mk hk
  have HB := Aside0.mk hb
  clear hfl hk hb
  refine callsIn_of_wp_marks Try.func14 rfl trivial ?_ rfl
  simp only [Try.ntmps14, List.size_toArray, List.length_cons, List.length_nil, Nat.reduceAdd, Nat.reduceSub, Array.replicate_succ, Array.replicate_zero, List.push_toArray, List.append_toArray, List.nil_append, List.cons_append]
  obtain ⟨W1, hW1⟩ : ∃ W1, (w.alloc (.cells #[.pointer (some ⟨F, 0, none⟩)] 28)).alloc (.cells #[.bool false] 4) = W1 := ⟨_, rfl⟩
  have hB1 : Below w.heap.size w W1 := by
    rw [← hW1]
    exact ((Below.refl w.heap.size w).alloc (Nat.le_refl _) _).alloc (by simp) _
  have hbx : W1.heap[w.heap.size]? = some (.cells #[.pointer (some ⟨F, 0, none⟩)] 28 (0, 0)) := by rw [← hW1]; exact al_old (al_new rfl) _
  have hrb : W1.heap[w.heap.size + 1]? = some (.cells #[.bool false] 4 (0, 0)) := by rw [← hW1]; exact al_new (by simp)
  have HF1 := Aside0.mk (HF.out.below hB1)
  have HK1 := Aside0.mk (HK.out.below hB1)
  have hsz : W1.heap.size = w.heap.size + 2 := by rw [← hW1]; simp
  have x1 : W1.cell? ⟨w.heap.size, 0, none⟩ = some (.pointer (some ⟨F, 0, none⟩)) := (blk_cell hbx 0).trans rfl
  gi_wp2_with (first
    | (refine ⟨trivial, ?_⟩; refine (callsIn_wide.2 (made_c HF1.out hh1)).mono ?_; rintro e w2 ⟨rfl, rfl⟩)
    | (refine ⟨trivial, ?_⟩; refine (callsIn_wide.2 (places_c HK1.out hkl HB.out)).mono ?_; rintro e w2 ⟨Bf, Ba, Bb, rfl, hpl, hb2⟩))
  clear hW1
  have hFl := blk_lt HF.out.fb
  have hgl := blk_lt HF.out.gb
  have hB2 : Below w.heap.size w w2 := hB1.trans (hb2.mono (by omega))
  have hI0 : MayI w base F g hs bl [] w2 := ⟨HF.out.below hB2, (hb2.block _ (blk_lt hbx)).trans hbx, (hb2.block _ (blk_lt hrb)).trans hrb, hB2, rfl, hFl, hgl⟩
  rw [hsz] at hpl
  have hla := hpl.la
  have hBa := blk_lt hpl.a
  have hs2 := hb2.size
  rw [hsz] at hs2
  have hbs : 0 ≤ stepF k ∧ stepF k < 4294967296 := ⟨bits_lo_u32 _ _ _, by have := bits_hi_u32 .or (moreF (moreF 0 k) [1]) 1; unfold stepF; omega⟩
  have hseq := places1 (n := 5) (by omega) (HF.out.below hB2) hpl hl1 hl2 hh2 (xor_rng _ _) hbs
  generalize hps : plF (moreF 0 k) (stepF k) (8 * bl.length) hs = ps at hseq ⊢
  refine range_mine (F := Fence.wide) (n := 6) rfl (by omega) (gf := 41) rfl trivial (enters_of Try.func41 (by kernel_rfl) rfl) hseq
    (fun l o hst hl hlo _ => (hst.far (Array.getElem?_eq_some_iff.1 hlo).1 (by omega)).trans hlo) (fun h k => h.trans k) (fun W l o o' _ hl ho _ => Kr.put hl ho)
    (fun xs W l o o' hwl hl ho hS => hS) (Below.refl _ _) (fun _ => rfl)
    (MayI w base F g hs bl) (fun pre A B h hst => h.step hst hla) (fun pre W l o o' hwl hl ho h => h.put (by omega) hl ho) (fun W o h => h.step ⟨rfl, rfl, rfl, by simp, fun k hk _ => Below.heap_alloc _ _ k hk⟩ hla) hI0
    (fun c _ => MayX w bl ps c) (fun c pre A B h hst => h.step hst hla) (fun c pre W l o o' hwl hl ho h => h.put (by omega) hl ho)
    (MayR w base F g hs bl A k.length c Bf Ba Bb ps) (fun pre x a' W l o o' hwl hl ho h => ⟨h.1, h.2.1.put (by omega) hl ho, h.2.2⟩) ?assign ?body ?done ?stop
  case assign =>
    intro l pre x W K hI hX hK
    have hX' := hX
    rw [← hps] at hX'
    have hr := plF_rng (by omega) hX'
    gi_wp2
    exact hK _ _ ⟨rfl, hI, hr.1, hr.2, hX⟩ (Below.refl _ _) (Kr.refl _)
  case body =>
    rintro l pre x a' W ⟨rfl, ⟨hfl, hbx', hrb', hbe, hal, hlt⟩, hx0, hx1, hX⟩
    have y1 : W.cell? ⟨w.heap.size, 0, none⟩ = some (.pointer (some ⟨F, 0, none⟩)) := (blk_cell hbx' 0).trans rfl
    have y2 : W.cell? ⟨F, 0, none⟩ = some (.slice (some ⟨g, 0, none⟩) bl.length bl.length) := (blk_cell hfl.fb 0).trans rfl
    have hj : (x / 8).toNat < bl.length := by omega
    have y3 : W.cell? ⟨g, (x / 8).toNat, none⟩ = some (.int .u8 (bl.getD (x / 8).toNat 0)) := (blk_cell hfl.gb _).trans (nums_get hj)
    have y5 : W.cell? ⟨w.heap.size + 1, 0, none⟩ = some (.bool false) := (blk_cell hrb' 0).trans rfl
    have y6 : W.frozen? ⟨w.heap.size + 1, 0, none⟩ = false := blk_frozen hrb' 0
    generalize hv : bl.getD (x / 8).toNat 0 = v at y3
    have HV := Aside0.mk hv
    clear hv
    gi_wp2
    · rename_i hz
      have hx : hasB bl x = false := by
        unfold hasB
        rw [HV.out, hz]
        rfl
      refine ⟨KeepsOthers.setCell _ _ _, rfl, blk_put hrb' 0 _ rfl, hbe.setCell (p := ⟨w.heap.size + 1, 0, none⟩) (by simp) _, ?_⟩
      refine Bool.eq_false_iff.2 (fun h => ?_)
      rw [List.all_eq_true] at h
      rw [h x (hX.subset (by simp))] at hx
      cases hx
    · rename_i hz
      have hx : hasB bl x = true := by
        unfold hasB
        rw [HV.out, hz]
        rfl
      exact ⟨KeepsOthers.refl _, Kr.refl _, hfl, hbx', hrb', hbe, by rw [List.all_append, hal]; simp [hx], hlt⟩
  case done =>
    rintro D xs W hD rfl hI hK
    have y5 : W.cell? ⟨w.heap.size + 1, 0, none⟩ = some (.bool false) := (blk_cell hI.rb 0).trans rfl
    have y6 : W.frozen? ⟨w.heap.size + 1, 0, none⟩ = false := blk_frozen hI.rb 0
    gi_wp2
    have hrb2 := blk_put hI.rb 0 (.bool true) rfl
    have hK' : (W.setCell ⟨w.heap.size + 1, 0, none⟩ (.bool true)).heap[D]? = some (.deferred (some [])) := (KeepsOthers.setCell W ⟨w.heap.size + 1, 0, none⟩ (.bool true)).same D _ hK rfl
    refine ⟨by simp, .inl ⟨_, _, rfl, run_takeDeferred hK', ?_⟩⟩
    have hc5 : ((W.setCell ⟨w.heap.size + 1, 0, none⟩ (.bool true)).putObj D (.deferred none)).cell? ⟨w.heap.size + 1, 0, none⟩ = some (.bool true) := (blk_cell ((put_far hK' rfl hrb2).trans hrb2) 0).trans rfl
    refine ⟨.bool true, ?_, by rw [hps, hI.al], below_step (hI.be.setCell (p := ⟨w.heap.size + 1, 0, none⟩) (by simp) _) step_put (by omega)⟩
    simp [results, Try.f14, go_sem, hc5]
  case stop =>
    rintro D c xs W hD ⟨rfl, hrb', hbe, hal⟩ hK
    gi_wp2
    refine ⟨by simp, .inl ⟨_, _, rfl, run_takeDeferred hK, ?_⟩⟩
    have hc5 : (W.putObj D (.deferred none)).cell? ⟨w.heap.size + 1, 0, none⟩ = some (.bool false) := (blk_cell ((put_far hK rfl hrb').trans hrb') 0).trans rfl
    refine ⟨.bool false, ?_, by rw [hps, hal], below_step hbe step_put (by omega)⟩
    simp [results, Try.f14, go_sem, hc5]
end Go.Proofs.Ytkpkhggjhpikdaa.Top
namespace Go.Proofs.Ytkpkhggjhpikdaa.Top
set_option linter.unusedSimpArgs false
set_option linter.unusedVariables false
open Go.RowKit Go.Proofs.YtkpkhggjhpikdaaW.PrintWords Go.Proofs.YtkpkhggjhpikdaaW.PrintLast Go.Proofs.YtkpkhggjhpikdaaW.PrintMore Go.Proofs.Ytkpkhggjhpikdaa.Plain
theorem bits_or8 (n m : Nat) (hn : n < 256) (hm : m < 256) : bits .or .u8 (n : Int) (m : Int) = ((n ||| m : Nat) : Int) := by
  have h : n ||| m < 2 ^ 8 := Nat.or_lt_two_pow hn hm
  show IntKind.u8.wrap ((((BitVec.ofInt 8 (n : Int)) ||| (BitVec.ofInt 8 (m : Int))).toNat : Nat) : Int) = _
  rw [BitVec.ofInt_natCast, BitVec.ofInt_natCast, BitVec.toNat_or, BitVec.toNat_ofNat, BitVec.toNat_ofNat]
  rw [Nat.mod_eq_of_lt (show n < 2 ^ 8 from hn), Nat.mod_eq_of_lt (show m < 2 ^ 8 from hm), IntWalk.u8_in _ (by omega)]
theorem bits_and8 (n m : Nat) (hn : n < 256) (hm : m < 256) : bits .and .u8 (n : Int) (m : Int) = ((n &&& m : Nat) : Int) := by
  have h : n &&& m ≤ n := Nat.and_le_left
  show IntKind.u8.wrap ((((BitVec.ofInt 8 (n : Int)) &&& (BitVec.ofInt 8 (m : Int))).toNat : Nat) : Int) = _
  rw [BitVec.ofInt_natCast, BitVec.ofInt_natCast, BitVec.toNat_and, BitVec.toNat_ofNat, BitVec.toNat_ofNat]
  rw [Nat.mod_eq_of_lt (show n < 2 ^ 8 from hn), Nat.mod_eq_of_lt (show m < 2 ^ 8 from hm), IntWalk.u8_in _ (by omega)]
theorem byt_get {bl : List Int} (hb : Byt bl) (j : Nat) : 0 ≤ bl.getD j 0 ∧ bl.getD j 0 < 256 := by
  rw [List.getD_eq_getElem?_getD]
  by_cases h : j < bl.length
  · rw [List.getElem?_eq_getElem h]
    have := hb _ (List.getElem_mem h)
    simpa using this
  · rw [List.getElem?_eq_none (by omega)]
    simp
theorem hasB_eq {bl : List Int} (hb : Byt bl) (p : Int) : hasB bl p = (bl.getD (p / 8).toNat 0).toNat.testBit (p % 8).toNat := by
  have hg := byt_get hb (p / 8).toNat
  unfold hasB
  generalize bl.getD (p / 8).toNat 0 = v at hg
  obtain ⟨n, rfl⟩ := Int.eq_ofNat_of_zero_le hg.1
  generalize (p % 8).toNat = i
  have hd : n / 2 ^ i ≤ n := Nat.div_le_self _ _
  have e : ((n : Int) / 2 ^ i) = ((n / 2 ^ i : Nat) : Int) := by push_cast; rfl
  have e1 : (1 : Int) = ((1 : Nat) : Int) := rfl
  rw [e, e1, bits_and8 _ _ (by omega) (by decide), Nat.and_one_is_mod, Int.toNat_natCast, Nat.testBit_eq_decide_div_mod_eq]
  rcases Nat.mod_two_eq_zero_or_one (n / 2 ^ i) with h | h <;> simp [h]
theorem setB_new {bl : List Int} (hb : Byt bl) (p : Int) : ∃ m : Nat, m < 256 ∧ bits .or .u8 (bl.getD (p / 8).toNat 0) (2 ^ (p % 8).toNat % 256) = (m : Int) ∧ m = (bl.getD (p / 8).toNat 0).toNat ||| 2 ^ (p % 8).toNat := by
  have hg := byt_get hb (p / 8).toNat
  generalize bl.getD (p / 8).toNat 0 = v at hg
  obtain ⟨n, rfl⟩ := Int.eq_ofNat_of_zero_le hg.1
  have hi : (p % 8).toNat < 8 := by omega
  generalize (p % 8).toNat = i at hi
  have hp : 2 ^ i < 256 := Nat.pow_lt_pow_right (a := 2) (by decide) hi
  have e : ((2 : Int) ^ i % 256) = ((2 ^ i : Nat) : Int) := by
    rw [show (2 : Int) ^ i = ((2 ^ i : Nat) : Int) by push_cast; rfl]
    generalize 2 ^ i = z at hp
    omega
  refine ⟨n ||| 2 ^ i, Nat.or_lt_two_pow (n := 8) (by omega) hp, ?_, by simp⟩
  rw [e, bits_or8 _ _ (by omega) hp]
theorem byt_set {bl : List Int} (hb : Byt bl) (p : Int) : Byt (setB bl p) := by
  obtain ⟨m, hm, he, _⟩ := setB_new hb p
  intro n hn
  unfold setB at hn
  rw [he] at hn
  rcases List.mem_or_eq_of_mem_set hn with h | h
  · exact hb n h
  · subst h
    omega
theorem hasB_same {bl : List Int} (hb : Byt bl) {p : Int} (h0 : 0 ≤ p) (h1 : p < 8 * bl.length) : hasB (setB bl p) p = true := by
  rw [hasB_eq (byt_set hb p)]
  obtain ⟨m, hm, he, hm2⟩ := setB_new hb p
  unfold setB
  rw [he, List.getD_eq_getElem?_getD, List.getElem?_set_self (by omega)]
  simp only [Option.getD_some, Int.toNat_natCast]
  rw [hm2, Nat.testBit_or, Nat.testBit_two_pow_self, Bool.or_true]
theorem hasB_mono {bl : List Int} (hb : Byt bl) (p : Int) {q : Int} (h : hasB bl q = true) : hasB (setB bl p) q = true := by
  rw [hasB_eq (byt_set hb p)]
  rw [hasB_eq hb] at h
  obtain ⟨m, hm, he, hm2⟩ := setB_new hb p
  unfold setB
  rw [he]
  by_cases hq : (q / 8).toNat = (p / 8).toNat
  · by_cases hl : (p / 8).toNat < bl.length
    · rw [hq, List.getD_eq_getElem?_getD, List.getElem?_set_self hl]
      rw [hq] at h
      simp only [Option.getD_some, Int.toNat_natCast]
      rw [hm2, Nat.testBit_or, h, Bool.true_or]
    · rw [List.set_eq_of_length_le (by omega)]
      exact h
  · rw [List.getD_eq_getElem?_getD, List.getElem?_set_ne (Ne.symm hq), ← List.getD_eq_getElem?_getD]
    exact h
theorem byt_sets {bl : List Int} (hb : Byt bl) : ∀ ps : List Int, Byt (ps.foldl setB bl) := fun ps => by
  induction ps generalizing bl with
  | nil => exact hb
  | cons p ps ih => exact ih (byt_set hb p)
theorem hasB_sets {bl : List Int} (hb : Byt bl) {q : Int} (h : hasB bl q = true) : ∀ ps : List Int, hasB (ps.foldl setB bl) q = true := fun ps => by
  induction ps generalizing bl with
  | nil => exact h
  | cons p ps ih => exact ih (byt_set hb p) (hasB_mono hb p h)
theorem hasB_all {bl : List Int} (hb : Byt bl) : ∀ ps : List Int, (∀ p ∈ ps, 0 ≤ p ∧ p < 8 * bl.length) → ps.all (hasB (ps.foldl setB bl)) = true := fun ps => by
  induction ps generalizing bl with
  | nil => exact fun _ => rfl
  | cons p ps ih =>
    intro h
    have hp := h p (by simp)
    rw [List.all_cons, List.foldl_cons, hasB_sets (byt_set hb p) (hasB_same hb hp.1 hp.2) ps, Bool.true_and]
    exact ih (byt_set hb p) (fun q hq => by rw [setB_len]; exact h q (by simp [hq]))
/-- Whether a filter may hold a key. -/
def mayF (bl k : List Int) (hs : Nat) : Bool := (plF (moreF 0 k) (stepF k) (8 * bl.length) hs).all (hasB bl)
theorem addF_len (bl k : List Int) (hs : Nat) : (addF bl k hs).length = bl.length := setsB_len _ _
theorem addF_byt {bl : List Int} (hb : Byt bl) (k : List Int) (hs : Nat) : Byt (addF bl k hs) := byt_sets hb _
theorem mayF_add {bl : List Int} (hb : Byt bl) (hl : 1 ≤ bl.length) (k : List Int) (hs : Nat) : mayF (addF bl k hs) k hs = true := by
  unfold mayF
  rw [addF_len]
  exact hasB_all hb _ (plF_all (by omega) _ _ _)
theorem mayF_mono {bl : List Int} (hb : Byt bl) (k k' : List Int) (hs : Nat) (h : mayF bl k hs = true) : mayF (addF bl k' hs) k hs = true := by
  unfold mayF at *
  rw [addF_len]
  rw [List.all_eq_true] at h ⊢
  exact fun x hx => hasB_sets hb (h x hx) _
end Go.Proofs.Ytkpkhggjhpikdaa.Top
