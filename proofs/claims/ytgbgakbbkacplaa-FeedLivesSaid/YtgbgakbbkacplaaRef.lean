/-
  The reference's feed in memory (two rows that are cut in front), and contracts of its New, Put, Take and Close; conditions: those that each theorem states.
-/
import Derived.Test.YtgbgakbbkacplaaFour
import Derived.Deep.RegionLaw
import Derived.BigQuiet
namespace Go.Proofs.Ytgbgakbbkacplaa.Feed
set_option linter.unusedSimpArgs false
set_option linter.unusedVariables false
open Go.Conc Go.RowKit Go.Proofs.YtgbgakbbkacplaaW.PrintWords
theorem info3' : (Try.prog.info? 3).map (fun i => (i.zero, i.size, i.bytes)) = some (some (.int .i64 0), 1, 8) := by kernel_rfl
/-- The reference's feed: its struct in block x, its rows in blocks of their own. -/
structure RfV (w : World) (base x room : Nat) (v1 v2 : Value) (us os : List Int) (cl : Bool) : Prop where
  blk : w.heap[x]? = some (.cells #[.int .i64 room, v1, v2, .bool cl] 44 (0, 0))
  xb : base ≤ x
  u : QRow w base 3 1 v1 us.length (nums .i64 us)
  o : QRow w base 3 1 v2 os.length (nums .i64 os)
  ne : ∀ k, v1.ownBlock = some k → v2.ownBlock ≠ some k
def Rf (w : World) (base x room : Nat) (us os : List Int) (cl : Bool) : Prop := ∃ v1 v2, RfV w base x room v1 v2 us os cl
/-- Only block x and rows of numbers may have turned. -/
def Gr (x : Nat) (w w' : World) : Prop := ∀ k o, w.heap[k]? = some o → k ≠ x → (∀ cs, o ≠ .cells cs 3 (0, 0)) → w'.heap[k]? = some o
section
variable {w w1 : World} {base x room : Nat} {v1 v2 v : Value} {us os l : List Int} {cl : Bool}
theorem Gr.refl (x : Nat) (w : World) : Gr x w w := fun _ _ h _ _ => h
theorem Gr.fd (h : Gr x w w1) (hR : Rf w base x room us os cl) {b c1 c2 n : Nat} {fu fo : List Int} {fc : Bool} (hF : Fd w b c1 c2 n fu fo fc) : Fd w1 b c1 c2 n fu fo fc := by
  obtain ⟨v1, v2, hR⟩ := hR
  obtain ⟨s1, r1, h1⟩ := hF.u
  obtain ⟨s2, r2, h2⟩ := hF.o
  refine ⟨h _ _ hF.blk ?_ (fun cs e => by simp at e), ⟨s1, r1, h _ _ h1 ?_ (fun cs e => by simp at e)⟩, ⟨s2, r2, h _ _ h2 ?_ (fun cs e => by simp at e)⟩, hF.ne⟩
  · rintro rfl
    have := hR.blk
    rw [hF.blk] at this
    simp at this
  · rintro rfl
    have := hR.blk
    rw [h1] at this
    simp at this
  · rintro rfl
    have := hR.blk
    rw [h2] at this
    simp at this
theorem RfV.move (h : RfV w base x room v1 v2 us os cl) (hm : ∀ (k : Nat) (cs : Array Value) (e : TypeId), w.heap[k]? = some (Obj.cells cs e (0, 0)) → e = 3 ∨ e = 44 → w1.heap[k]? = w.heap[k]?) : RfV w1 base x room v1 v2 us os cl := by
  have hr : ∀ {v : Value} {l : List Int}, QRow w base 3 1 v l.length (nums .i64 l) → QRow w1 base 3 1 v l.length (nums .i64 l) := by
    intro v l hv
    refine q_move hv (fun k hk => ?_)
    obtain ⟨_, cs, hc⟩ := q_typed hv k hk
    exact hm k cs 3 hc (.inl rfl)
  exact ⟨(hm _ _ _ h.blk (.inr rfl)).trans h.blk, h.xb, hr h.u, hr h.o, h.ne⟩
theorem Rf.alloc (h : Rf w base x room us os cl) (o : Obj) : Rf (w.alloc o) base x room us os cl := by
  obtain ⟨v1, v2, h⟩ := h
  exact ⟨v1, v2, h.move fun k cs e hk _ => Below.heap_alloc _ _ _ (lt_of_heap hk)⟩
theorem Rf.drewN (h : Rf w base x room us os cl) (n : Nat) : Rf (w.drewN n) base x room us os cl := by
  obtain ⟨v1, v2, h⟩ := h
  exact ⟨v1, v2, h.move fun _ _ _ _ _ => rfl⟩
theorem Rf.drew (h : Rf w base x room us os cl) : Rf w.drew base x room us os cl := by
  obtain ⟨v1, v2, h⟩ := h
  exact ⟨v1, v2, h.move fun _ _ _ _ _ => rfl⟩
theorem Rf.feed {b b1 b2 n : Nat} {fu fo : List Int} {fc : Bool} (h : Rf w base x room us os cl) (hF : Fd w b b1 b2 n fu fo fc) (hR : Fr b b1 b2 w w1) : Rf w1 base x room us os cl := by
  obtain ⟨v1, v2, h⟩ := h
  obtain ⟨_, _, hu⟩ := hF.u
  obtain ⟨_, _, ho⟩ := hF.o
  refine ⟨v1, v2, h.move fun k cs e hk he => hR.other k ?_ ?_ ?_⟩
  · rintro rfl
    rw [hF.blk] at hk
    simp at hk
    obtain ⟨_, rfl⟩ := hk
    rcases he with he | he <;> exact absurd he (by decide)
  · rintro rfl
    rw [hu] at hk
    simp at hk
  · rintro rfl
    rw [ho] at hk
    simp at hk
theorem RfV.row_ne (h : RfV w base x room v1 v2 us os cl) {v : Value} {l : List Int} (hv : QRow w base 3 1 v l.length (nums .i64 l)) : some x ≠ v.ownBlock := fun e => by
  obtain ⟨_, cs, hc⟩ := q_typed hv _ e.symm
  rw [h.blk] at hc
  simp at hc
/-- Row 1 is another one. -/
theorem RfV.put1 (h : RfV w base x room v1 v2 us os cl) (hown : QRow w1 base 3 1 v l.length (nums .i64 l)) (hg : w.grownBy w1 v1.ownBlock) (hat : v.ownBlock = v1.ownBlock ∨ ∃ b, v.ownBlock = some b ∧ w.heap.size ≤ b) :
    RfV (w1.setCell ⟨x, 1, none⟩ v) base x room v v2 l os cl ∧ Gr x w (w1.setCell ⟨x, 1, none⟩ v) := by
  have hi : w1.heap[x]? = some (.cells #[.int .i64 room, v1, v2, .bool cl] 44 (0, 0)) := (hg.block x (lt_of_heap h.blk) (h.row_ne h.u)).trans h.blk
  have hs : ∀ k, k ≠ x → (w1.setCell ⟨x, 1, none⟩ v).heap[k]? = w1.heap[k]? := fun k hk => Below.heap_setCell _ _ _ _ hk
  have hnew : QRow (w1.setCell ⟨x, 1, none⟩ v) base 3 1 v l.length (nums .i64 l) := by
    refine q_move hown (fun k hk => hs k ?_)
    rintro rfl
    obtain ⟨_, cs, hc⟩ := q_typed hown _ hk
    rw [hi] at hc
    simp at hc
  have hd : ∀ k, v2.ownBlock = some k → v1.ownBlock ≠ some k := fun k h1 h2 => h.ne k h2 h1
  have hold : QRow (w1.setCell ⟨x, 1, none⟩ v) base 3 1 v2 os.length (nums .i64 os) := by
    refine q_move h.o (fun k hk => ?_)
    obtain ⟨_, cs, hc⟩ := q_typed h.o k hk
    have hkg : k ≠ x := by
      rintro rfl
      rw [h.blk] at hc
      simp at hc
    exact (hs k hkg).trans (hg.block k (lt_of_heap hc) (fun e => hd k hk e.symm))
  have hap : ∀ k, v2.ownBlock = some k → v.ownBlock ≠ some k := by
    intro k hk hv
    rcases hat with e | ⟨b, e, hb⟩
    · exact hd k hk (by rw [← e]; exact hv)
    · obtain ⟨_, cs, hc⟩ := q_typed h.o k hk
      rw [e] at hv
      have := lt_of_heap hc
      simp at hv
      omega
  refine ⟨⟨blk_put hi 1 v rfl, h.xb, hnew, hold, fun k h1 h2 => hap k h2 h1⟩, fun k o hk hkx h3 => ?_⟩
  rw [hs k hkx, hg.block k (lt_of_heap hk) ?_]
  · exact hk
  · intro e
    obtain ⟨_, cs, hc⟩ := q_typed h.u k e.symm
    rw [hc] at hk
    exact h3 _ (Option.some.inj hk).symm
/-- Row 2 is another one. -/
theorem RfV.put2 (h : RfV w base x room v1 v2 us os cl) (hown : QRow w1 base 3 1 v l.length (nums .i64 l)) (hg : w.grownBy w1 v2.ownBlock) (hat : v.ownBlock = v2.ownBlock ∨ ∃ b, v.ownBlock = some b ∧ w.heap.size ≤ b) :
    RfV (w1.setCell ⟨x, 2, none⟩ v) base x room v1 v us l cl ∧ Gr x w (w1.setCell ⟨x, 2, none⟩ v) := by
  have hi : w1.heap[x]? = some (.cells #[.int .i64 room, v1, v2, .bool cl] 44 (0, 0)) := (hg.block x (lt_of_heap h.blk) (h.row_ne h.o)).trans h.blk
  have hs : ∀ k, k ≠ x → (w1.setCell ⟨x, 2, none⟩ v).heap[k]? = w1.heap[k]? := fun k hk => Below.heap_setCell _ _ _ _ hk
  have hnew : QRow (w1.setCell ⟨x, 2, none⟩ v) base 3 1 v l.length (nums .i64 l) := by
    refine q_move hown (fun k hk => hs k ?_)
    rintro rfl
    obtain ⟨_, cs, hc⟩ := q_typed hown _ hk
    rw [hi] at hc
    simp at hc
  have hd : ∀ k, v1.ownBlock = some k → v2.ownBlock ≠ some k := fun k h1 h2 => h.ne k h1 h2
  have hold : QRow (w1.setCell ⟨x, 2, none⟩ v) base 3 1 v1 us.length (nums .i64 us) := by
    refine q_move h.u (fun k hk => ?_)
    obtain ⟨_, cs, hc⟩ := q_typed h.u k hk
    have hkg : k ≠ x := by
      rintro rfl
      rw [h.blk] at hc
      simp at hc
    exact (hs k hkg).trans (hg.block k (lt_of_heap hc) (fun e => hd k hk e.symm))
  have hap : ∀ k, v1.ownBlock = some k → v.ownBlock ≠ some k := by
    intro k hk hv
    rcases hat with e | ⟨b, e, hb⟩
    · exact hd k hk (by rw [← e]; exact hv)
    · obtain ⟨_, cs, hc⟩ := q_typed h.u k hk
      rw [e] at hv
      have := lt_of_heap hc
      simp at hv
      omega
  refine ⟨⟨blk_put hi 2 v rfl, h.xb, hold, hnew, hap⟩, fun k o hk hkx h3 => ?_⟩
  rw [hs k hkx, hg.block k (lt_of_heap hk) ?_]
  · exact hk
  · intro e
    obtain ⟨_, cs, hc⟩ := q_typed h.o k e.symm
    rw [hc] at hk
    exact h3 _ (Option.some.inj hk).symm
/-- Closed. -/
theorem RfV.close (h : RfV w base x room v1 v2 us os cl) : RfV (w.setCell ⟨x, 3, none⟩ (.bool true)) base x room v1 v2 us os true ∧ Gr x w (w.setCell ⟨x, 3, none⟩ (.bool true)) := by
  have hs : ∀ k, k ≠ x → (w.setCell ⟨x, 3, none⟩ (.bool true)).heap[k]? = w.heap[k]? := fun k hk => Below.heap_setCell _ _ _ _ hk
  have hold : ∀ {v : Value} {l : List Int}, QRow w base 3 1 v l.length (nums .i64 l) → QRow (w.setCell ⟨x, 3, none⟩ (.bool true)) base 3 1 v l.length (nums .i64 l) := by
    intro v l hv
    refine q_move hv (fun k hk => hs k ?_)
    rintro rfl
    exact h.row_ne hv hk.symm
  exact ⟨⟨blk_put h.blk 3 _ rfl, h.xb, hold h.u, hold h.o, h.ne⟩, fun k o hk hkx _ => (hs k hkx).trans hk⟩
theorem lt_base (h : RfV w base x room v1 v2 us os cl) : base ≤ w.heap.size := Nat.le_trans h.xb (Nat.le_of_lt (lt_of_heap h.blk))
end
/-- An append to a row that may begin inside its block. -/
theorem ref_append {ops : Array Oper} {rest : List Oper} {o : Oper} {a : Act} {Q' : Exit → Act → World → Prop} {w0 W : World} (base : Nat) (hgd : o.guard = none) (s x : Operand)
    (ho : o.op = .call { callee := .builtin .append, args := #[s, x], argTypes := #[28, 28] }) (v : Value) (xs : List Int) (y : Int) (hs : a.eval s = v) (hx : a.eval x = .slice (some ⟨W.heap.size, 0, none⟩) 1 1)
    (HO : QRow W base 3 1 v xs.length (nums .i64 xs)) (HB : Below base w0 W) (hbase : base ≤ W.heap.size) (hl : xs.length ≤ 1000)
    (h : ∀ v1 w1, QRow w1 base 3 1 v1 (xs ++ [y]).length (nums .i64 (xs ++ [y])) → Below base w0 w1 → W.grownBy w1 v.ownBlock → (v1.ownBlock = v.ownBlock ∨ ∃ b, v1.ownBlock = some b ∧ W.heap.size ≤ b) → wpList Try.prog ops Q' rest (a.put o.dst v1) w1) :
    wpList Try.prog ops Q' (o :: rest) a (W.alloc (.cells #[.int .i64 y] 3)) := by
  obtain ⟨i0, hi, hzz⟩ := Option.map_eq_some_iff.1 info3'
  simp only [Prod.mk.injEq] at hzz
  obtain ⟨hz0, hz1, hz2⟩ := hzz
  have hq : QRow (W.alloc (.cells #[.int .i64 y] 3)) base 3 1 v xs.length (nums .i64 xs) := q_move HO (fun k hk => Below.heap_alloc W _ k (q_lt HO k hk))
  obtain ⟨v1, w1, hrun, hq1, hg1, hat⟩ := q_append (P := Try.prog) (W.alloc (.cells #[.int .i64 y] 3)) base 28 o.type 3 i0 (.int .i64 0) 1 8 Try.underlying28 hi hz0 hz1 hz2 rfl (by omega) v xs.length (nums .i64 xs) hq ⟨W.heap.size, 0, none⟩ 1 1 [.int .i64 y] rfl
    (by simpa using World.news_of_block (cs := #[.int .i64 y]) (t := 3) (fr := (0, 0)) (heap_alloc_new W (.cells #[.int .i64 y] 3))) (by intro u hu; simp at hu; subst hu; rfl) (by omega) (by simp only [maxLen]; omega) (by omega) (by simp; omega)
  have hg : W.grownBy w1 v.ownBlock := World.grownBy.trans (World.grownBy_alloc W _ _) hg1
  have hat' : v1.ownBlock = v.ownBlock ∨ ∃ b, v1.ownBlock = some b ∧ W.heap.size ≤ b := by
    rcases hat with hat | ⟨b, hb, hle⟩
    · exact .inl hat
    · exact .inr ⟨b, hb, by rw [World.size_alloc] at hle; omega⟩
  refine wpList_plain hgd fun K hK => ?_
  unfold Oper.wp execOp
  simp only [ho, resolve, invoke, builtin, Sem.run_bind, Sem.run_pure, Result.andThen_ok, List.map_toArray, List.map_cons, List.map_nil, hs, hx, hrun]
  exact hK _ _ (h v1 w1 (by simpa [nums] using hq1) (HB.grown hg hbase (fun k hk => (q_typed HO k hk).1)) hg hat')
end Go.Proofs.Ytgbgakbbkacplaa.Feed
