/-
  Two blocks of two rows of numbers each, the rows the call's own: what they hold; a row grows, the others stand; conditions: those that each theorem states.
-/
import Derived.Test.YtgbgakbbkacplaaFirst
namespace Go.Proofs.Ytgbgakbbkacplaa.Feed
set_option linter.unusedSimpArgs false
set_option linter.unusedVariables false
open Go.Conc Go.RowKit Go.Proofs.YtgbgakbbkacplaaW.PrintWords
/-- in = [a0, a1] in block gi, out = [c0, c1] in block go; they hold p0, p1, q0, q1; no two share a block. -/
structure Four (w : World) (base gi go : Nat) (a0 a1 c0 c1 : Value) (p0 p1 q0 q1 : List Int) : Prop where
  bi : w.heap[gi]? = some (.cells #[a0, a1] 29 (0, 0))
  bo : w.heap[go]? = some (.cells #[c0, c1] 29 (0, 0))
  ne : gi ≠ go
  gib : base ≤ gi
  gob : base ≤ go
  r0 : w.ownsRow base 3 1 a0 p0.length (nums .i64 p0)
  r1 : w.ownsRow base 3 1 a1 p1.length (nums .i64 p1)
  r2 : w.ownsRow base 3 1 c0 q0.length (nums .i64 q0)
  r3 : w.ownsRow base 3 1 c1 q1.length (nums .i64 q1)
  d01 : ∀ k, a0.ownBlock = some k → a1.ownBlock ≠ some k
  d02 : ∀ k, a0.ownBlock = some k → c0.ownBlock ≠ some k
  d03 : ∀ k, a0.ownBlock = some k → c1.ownBlock ≠ some k
  d12 : ∀ k, a1.ownBlock = some k → c0.ownBlock ≠ some k
  d13 : ∀ k, a1.ownBlock = some k → c1.ownBlock ≠ some k
  d23 : ∀ k, c0.ownBlock = some k → c1.ownBlock ≠ some k

section
variable {w w1 : World} {base gi go : Nat} {a0 a1 c0 c1 : Value} {p0 p1 q0 q1 : List Int}
/-- What stands in a block of rows, or of numbers, stays: so do the four. -/
theorem Four.move (h : Four w base gi go a0 a1 c0 c1 p0 p1 q0 q1) (hm : ∀ (k : Nat) (cs : Array Value) (e : TypeId), w.heap[k]? = some (Obj.cells cs e (0, 0)) → e = 3 ∨ e = 29 → w1.heap[k]? = w.heap[k]?) : Four w1 base gi go a0 a1 c0 c1 p0 p1 q0 q1 := by
  have hr : ∀ {v : Value} {l : List Int}, w.ownsRow base 3 1 v l.length (nums .i64 l) → w1.ownsRow base 3 1 v l.length (nums .i64 l) := by
    intro v l hv
    refine own_move hv (fun k hk => ?_)
    obtain ⟨cs, hc⟩ := own_typed hv k hk
    exact hm k cs 3 hc (.inl rfl)
  exact ⟨(hm _ _ _ h.bi (.inr rfl)).trans h.bi, (hm _ _ _ h.bo (.inr rfl)).trans h.bo, h.ne, h.gib, h.gob, hr h.r0, hr h.r1, hr h.r2, hr h.r3, h.d01, h.d02, h.d03, h.d12, h.d13, h.d23⟩
theorem Four.alloc (h : Four w base gi go a0 a1 c0 c1 p0 p1 q0 q1) (o : Obj) : Four (w.alloc o) base gi go a0 a1 c0 c1 p0 p1 q0 q1 := h.move fun k cs e hk _ => Below.heap_alloc _ _ _ (lt_of_heap hk)
theorem Four.drewN (h : Four w base gi go a0 a1 c0 c1 p0 p1 q0 q1) (n : Nat) : Four (w.drewN n) base gi go a0 a1 c0 c1 p0 p1 q0 q1 := h.move fun _ _ _ _ _ => rfl
theorem Four.drew (h : Four w base gi go a0 a1 c0 c1 p0 p1 q0 q1) : Four w.drew base gi go a0 a1 c0 c1 p0 p1 q0 q1 := h.move fun _ _ _ _ _ => rfl
theorem Four.feed {b b1 b2 room : Nat} {us os : List Int} {cl : Bool} (h : Four w base gi go a0 a1 c0 c1 p0 p1 q0 q1) (hF : Fd w b b1 b2 room us os cl) (hR : Fr b b1 b2 w w1) : Four w1 base gi go a0 a1 c0 c1 p0 p1 q0 q1 := by
  obtain ⟨_, _, hu⟩ := hF.u
  obtain ⟨_, _, ho⟩ := hF.o
  refine h.move fun k cs e hk he => hR.other k ?_ ?_ ?_
  · rintro rfl
    rw [hF.blk] at hk
    simp at hk
    obtain ⟨_, rfl⟩ := hk
    rcases he with he | he <;> exact absurd he (by decide)
  · rintro rfl
    rw [hu] at hk
    simp at hk
  · rintro rfl
    rw [ho] at hk
    simp at hk
theorem Four.row_ne (h : Four w base gi go a0 a1 c0 c1 p0 p1 q0 q1) {v : Value} {l : List Int} (hv : w.ownsRow base 3 1 v l.length (nums .i64 l)) : some gi ≠ v.ownBlock ∧ some go ≠ v.ownBlock := by
  refine ⟨fun e => ?_, fun e => ?_⟩
  · obtain ⟨cs, hc⟩ := own_typed hv _ e.symm
    rw [h.bi] at hc
    simp at hc
  · obtain ⟨cs, hc⟩ := own_typed hv _ e.symm
    rw [h.bo] at hc
    simp at hc
/-- One more number in a0. -/
theorem Four.push0 (h : Four w base gi go a0 a1 c0 c1 p0 p1 q0 q1) {v : Value} {x : Int} (hown : w1.ownsRow base 3 1 v (p0 ++ [x]).length (nums .i64 (p0 ++ [x]))) (hg : w.grownBy w1 a0.ownBlock) (hat : v.ownBlock = a0.ownBlock ∨ ∃ b, v.ownBlock = some b ∧ w.heap.size ≤ b) :
    Four (w1.setCell ⟨gi, 0, none⟩ v) base gi go v a1 c0 c1 (p0 ++ [x]) p1 q0 q1 := by
  have hi1 : w1.heap[gi]? = some (.cells #[a0, a1] 29 (0, 0)) := (hg.block gi (lt_of_heap h.bi) (h.row_ne h.r0).1).trans h.bi
  have ho1 : w1.heap[go]? = some (.cells #[c0, c1] 29 (0, 0)) := (hg.block go (lt_of_heap h.bo) (h.row_ne h.r0).2).trans h.bo
  have hs : ∀ k, k ≠ gi → (w1.setCell ⟨gi, 0, none⟩ v).heap[k]? = w1.heap[k]? := fun k hk => Below.heap_setCell _ _ _ _ hk
  have hnew : (w1.setCell ⟨gi, 0, none⟩ v).ownsRow base 3 1 v (p0 ++ [x]).length (nums .i64 (p0 ++ [x])) := by
    refine own_move hown (fun k hk => hs k ?_)
    rintro rfl
    obtain ⟨cs, hc⟩ := own_typed hown _ hk
    rw [hi1] at hc
    simp at hc
  have hold : ∀ {u : Value} {l : List Int}, w.ownsRow base 3 1 u l.length (nums .i64 l) → (∀ k, u.ownBlock = some k → a0.ownBlock ≠ some k) → (w1.setCell ⟨gi, 0, none⟩ v).ownsRow base 3 1 u l.length (nums .i64 l) := by
    intro u l hu hd
    refine own_move hu (fun k hk => ?_)
    obtain ⟨cs, hc⟩ := own_typed hu k hk
    have hkg : k ≠ gi := by
      rintro rfl
      rw [h.bi] at hc
      simp at hc
    exact (hs k hkg).trans (hg.block k (lt_of_heap hc) (fun e => hd k hk e.symm))
  have hap : ∀ {u : Value} {l : List Int}, w.ownsRow base 3 1 u l.length (nums .i64 l) → (∀ k, u.ownBlock = some k → a0.ownBlock ≠ some k) → ∀ k, u.ownBlock = some k → v.ownBlock ≠ some k := by
    intro u l hu hd k hk hv
    rcases hat with e | ⟨b, e, hb⟩
    · exact hd k hk (by rw [← e]; exact hv)
    · obtain ⟨cs, hc⟩ := own_typed hu k hk
      rw [e] at hv
      have := lt_of_heap hc
      simp at hv
      omega
  have hflip : ∀ {u u' : Value}, (∀ k, u.ownBlock = some k → u'.ownBlock ≠ some k) → ∀ k, u'.ownBlock = some k → u.ownBlock ≠ some k := fun hd k h1 h2 => hd k h2 h1
  exact ⟨blk_put hi1 0 v rfl, (hs go (Ne.symm h.ne)).trans ho1, h.ne, h.gib, h.gob, hnew, (hold h.r1 (hflip h.d01)), (hold h.r2 (hflip h.d02)), (hold h.r3 (hflip h.d03)), (hflip (hap h.r1 (hflip h.d01))), (hflip (hap h.r2 (hflip h.d02))), (hflip (hap h.r3 (hflip h.d03))), h.d12, h.d13, h.d23⟩
/-- One more number in a1. -/
theorem Four.push1 (h : Four w base gi go a0 a1 c0 c1 p0 p1 q0 q1) {v : Value} {x : Int} (hown : w1.ownsRow base 3 1 v (p1 ++ [x]).length (nums .i64 (p1 ++ [x]))) (hg : w.grownBy w1 a1.ownBlock) (hat : v.ownBlock = a1.ownBlock ∨ ∃ b, v.ownBlock = some b ∧ w.heap.size ≤ b) :
    Four (w1.setCell ⟨gi, 1, none⟩ v) base gi go a0 v c0 c1 p0 (p1 ++ [x]) q0 q1 := by
  have hi1 : w1.heap[gi]? = some (.cells #[a0, a1] 29 (0, 0)) := (hg.block gi (lt_of_heap h.bi) (h.row_ne h.r1).1).trans h.bi
  have ho1 : w1.heap[go]? = some (.cells #[c0, c1] 29 (0, 0)) := (hg.block go (lt_of_heap h.bo) (h.row_ne h.r1).2).trans h.bo
  have hs : ∀ k, k ≠ gi → (w1.setCell ⟨gi, 1, none⟩ v).heap[k]? = w1.heap[k]? := fun k hk => Below.heap_setCell _ _ _ _ hk
  have hnew : (w1.setCell ⟨gi, 1, none⟩ v).ownsRow base 3 1 v (p1 ++ [x]).length (nums .i64 (p1 ++ [x])) := by
    refine own_move hown (fun k hk => hs k ?_)
    rintro rfl
    obtain ⟨cs, hc⟩ := own_typed hown _ hk
    rw [hi1] at hc
    simp at hc
  have hold : ∀ {u : Value} {l : List Int}, w.ownsRow base 3 1 u l.length (nums .i64 l) → (∀ k, u.ownBlock = some k → a1.ownBlock ≠ some k) → (w1.setCell ⟨gi, 1, none⟩ v).ownsRow base 3 1 u l.length (nums .i64 l) := by
    intro u l hu hd
    refine own_move hu (fun k hk => ?_)
    obtain ⟨cs, hc⟩ := own_typed hu k hk
    have hkg : k ≠ gi := by
      rintro rfl
      rw [h.bi] at hc
      simp at hc
    exact (hs k hkg).trans (hg.block k (lt_of_heap hc) (fun e => hd k hk e.symm))
  have hap : ∀ {u : Value} {l : List Int}, w.ownsRow base 3 1 u l.length (nums .i64 l) → (∀ k, u.ownBlock = some k → a1.ownBlock ≠ some k) → ∀ k, u.ownBlock = some k → v.ownBlock ≠ some k := by
    intro u l hu hd k hk hv
    rcases hat with e | ⟨b, e, hb⟩
    · exact hd k hk (by rw [← e]; exact hv)
    · obtain ⟨cs, hc⟩ := own_typed hu k hk
      rw [e] at hv
      have := lt_of_heap hc
      simp at hv
      omega
  have hflip : ∀ {u u' : Value}, (∀ k, u.ownBlock = some k → u'.ownBlock ≠ some k) → ∀ k, u'.ownBlock = some k → u.ownBlock ≠ some k := fun hd k h1 h2 => hd k h2 h1
  exact ⟨blk_put hi1 1 v rfl, (hs go (Ne.symm h.ne)).trans ho1, h.ne, h.gib, h.gob, (hold h.r0 h.d01), hnew, (hold h.r2 (hflip h.d12)), (hold h.r3 (hflip h.d13)), (hap h.r0 h.d01), h.d02, h.d03, (hflip (hap h.r2 (hflip h.d12))), (hflip (hap h.r3 (hflip h.d13))), h.d23⟩
/-- One more number in c0. -/
theorem Four.push2 (h : Four w base gi go a0 a1 c0 c1 p0 p1 q0 q1) {v : Value} {x : Int} (hown : w1.ownsRow base 3 1 v (q0 ++ [x]).length (nums .i64 (q0 ++ [x]))) (hg : w.grownBy w1 c0.ownBlock) (hat : v.ownBlock = c0.ownBlock ∨ ∃ b, v.ownBlock = some b ∧ w.heap.size ≤ b) :
    Four (w1.setCell ⟨go, 0, none⟩ v) base gi go a0 a1 v c1 p0 p1 (q0 ++ [x]) q1 := by
  have hi1 : w1.heap[gi]? = some (.cells #[a0, a1] 29 (0, 0)) := (hg.block gi (lt_of_heap h.bi) (h.row_ne h.r2).1).trans h.bi
  have ho1 : w1.heap[go]? = some (.cells #[c0, c1] 29 (0, 0)) := (hg.block go (lt_of_heap h.bo) (h.row_ne h.r2).2).trans h.bo
  have hs : ∀ k, k ≠ go → (w1.setCell ⟨go, 0, none⟩ v).heap[k]? = w1.heap[k]? := fun k hk => Below.heap_setCell _ _ _ _ hk
  have hnew : (w1.setCell ⟨go, 0, none⟩ v).ownsRow base 3 1 v (q0 ++ [x]).length (nums .i64 (q0 ++ [x])) := by
    refine own_move hown (fun k hk => hs k ?_)
    rintro rfl
    obtain ⟨cs, hc⟩ := own_typed hown _ hk
    rw [ho1] at hc
    simp at hc
  have hold : ∀ {u : Value} {l : List Int}, w.ownsRow base 3 1 u l.length (nums .i64 l) → (∀ k, u.ownBlock = some k → c0.ownBlock ≠ some k) → (w1.setCell ⟨go, 0, none⟩ v).ownsRow base 3 1 u l.length (nums .i64 l) := by
    intro u l hu hd
    refine own_move hu (fun k hk => ?_)
    obtain ⟨cs, hc⟩ := own_typed hu k hk
    have hkg : k ≠ go := by
      rintro rfl
      rw [h.bo] at hc
      simp at hc
    exact (hs k hkg).trans (hg.block k (lt_of_heap hc) (fun e => hd k hk e.symm))
  have hap : ∀ {u : Value} {l : List Int}, w.ownsRow base 3 1 u l.length (nums .i64 l) → (∀ k, u.ownBlock = some k → c0.ownBlock ≠ some k) → ∀ k, u.ownBlock = some k → v.ownBlock ≠ some k := by
    intro u l hu hd k hk hv
    rcases hat with e | ⟨b, e, hb⟩
    · exact hd k hk (by rw [← e]; exact hv)
    · obtain ⟨cs, hc⟩ := own_typed hu k hk
      rw [e] at hv
      have := lt_of_heap hc
      simp at hv
      omega
  have hflip : ∀ {u u' : Value}, (∀ k, u.ownBlock = some k → u'.ownBlock ≠ some k) → ∀ k, u'.ownBlock = some k → u.ownBlock ≠ some k := fun hd k h1 h2 => hd k h2 h1
  exact ⟨(hs gi h.ne).trans hi1, blk_put ho1 0 v rfl, h.ne, h.gib, h.gob, (hold h.r0 h.d02), (hold h.r1 h.d12), hnew, (hold h.r3 (hflip h.d23)), h.d01, (hap h.r0 h.d02), h.d03, (hap h.r1 h.d12), h.d13, (hflip (hap h.r3 (hflip h.d23)))⟩
/-- One more number in c1. -/
theorem Four.push3 (h : Four w base gi go a0 a1 c0 c1 p0 p1 q0 q1) {v : Value} {x : Int} (hown : w1.ownsRow base 3 1 v (q1 ++ [x]).length (nums .i64 (q1 ++ [x]))) (hg : w.grownBy w1 c1.ownBlock) (hat : v.ownBlock = c1.ownBlock ∨ ∃ b, v.ownBlock = some b ∧ w.heap.size ≤ b) :
    Four (w1.setCell ⟨go, 1, none⟩ v) base gi go a0 a1 c0 v p0 p1 q0 (q1 ++ [x]) := by
  have hi1 : w1.heap[gi]? = some (.cells #[a0, a1] 29 (0, 0)) := (hg.block gi (lt_of_heap h.bi) (h.row_ne h.r3).1).trans h.bi
  have ho1 : w1.heap[go]? = some (.cells #[c0, c1] 29 (0, 0)) := (hg.block go (lt_of_heap h.bo) (h.row_ne h.r3).2).trans h.bo
  have hs : ∀ k, k ≠ go → (w1.setCell ⟨go, 1, none⟩ v).heap[k]? = w1.heap[k]? := fun k hk => Below.heap_setCell _ _ _ _ hk
  have hnew : (w1.setCell ⟨go, 1, none⟩ v).ownsRow base 3 1 v (q1 ++ [x]).length (nums .i64 (q1 ++ [x])) := by
    refine own_move hown (fun k hk => hs k ?_)
    rintro rfl
    obtain ⟨cs, hc⟩ := own_typed hown _ hk
    rw [ho1] at hc
    simp at hc
  have hold : ∀ {u : Value} {l : List Int}, w.ownsRow base 3 1 u l.length (nums .i64 l) → (∀ k, u.ownBlock = some k → c1.ownBlock ≠ some k) → (w1.setCell ⟨go, 1, none⟩ v).ownsRow base 3 1 u l.length (nums .i64 l) := by
    intro u l hu hd
    refine own_move hu (fun k hk => ?_)
    obtain ⟨cs, hc⟩ := own_typed hu k hk
    have hkg : k ≠ go := by
      rintro rfl
      rw [h.bo] at hc
      simp at hc
    exact (hs k hkg).trans (hg.block k (lt_of_heap hc) (fun e => hd k hk e.symm))
  have hap : ∀ {u : Value} {l : List Int}, w.ownsRow base 3 1 u l.length (nums .i64 l) → (∀ k, u.ownBlock = some k → c1.ownBlock ≠ some k) → ∀ k, u.ownBlock = some k → v.ownBlock ≠ some k := by
    intro u l hu hd k hk hv
    rcases hat with e | ⟨b, e, hb⟩
    · exact hd k hk (by rw [← e]; exact hv)
    · obtain ⟨cs, hc⟩ := own_typed hu k hk
      rw [e] at hv
      have := lt_of_heap hc
      simp at hv
      omega
  have hflip : ∀ {u u' : Value}, (∀ k, u.ownBlock = some k → u'.ownBlock ≠ some k) → ∀ k, u'.ownBlock = some k → u.ownBlock ≠ some k := fun hd k h1 h2 => hd k h2 h1
  exact ⟨(hs gi h.ne).trans hi1, blk_put ho1 1 v rfl, h.ne, h.gib, h.gob, (hold h.r0 h.d03), (hold h.r1 h.d13), (hold h.r2 h.d23), hnew, h.d01, h.d02, (hap h.r0 h.d03), h.d12, (hap h.r1 h.d13), (hap h.r2 h.d23)⟩
end
end Go.Proofs.Ytgbgakbbkacplaa.Feed
