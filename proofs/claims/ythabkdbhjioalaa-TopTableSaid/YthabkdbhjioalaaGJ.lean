/-
  A wide number's bytes; conditions: those that each theorem states.
-/
import Derived.Test.YthabkdbhjioalaaGH
import Derived.Laws.BitsAllLaws
import Derived.Laws.ResultCell
namespace Go.Proofs.Ythabkdbhjioalaa.Top
set_option linter.unusedSimpArgs false
set_option linter.unusedVariables false
open Go.RowKit Go.Proofs.YthabkdbhjioalaaW.PrintWords Go.Proofs.YthabkdbhjioalaaW.PrintLast Go.Proofs.YthabkdbhjioalaaW.PrintMore Go.Proofs.Ythabkdbhjioalaa.Plain Go.Proofs.Ythabkdbhjioalaa.Fns
/-- A number of 64 digits, without its sign. -/
def u64N (z : Int) : Nat := (z % 18446744073709551616).toNat
theorem u64N_nat (n : Nat) (h : n < 18446744073709551616) : u64N (n : Int) = n := by unfold u64N; omega
theorem u64N_lt (z : Int) : u64N z < 18446744073709551616 := by unfold u64N; omega
def byte1 (v : Nat) (i : Nat) : Int := ((v / 2 ^ (56 - 8 * i) % 256 : Nat) : Int)
/-- What the row holds behind so many rounds. -/
def wcells (H L i : Nat) : List Int := (List.range 16).map fun j => if j < 8 then (if j < i then byte1 H j else 0) else (if j - 8 < i then byte1 L (j - 8) else 0)
theorem wcells_all (H L : Nat) : wcells H L 8 = numb H 8 ++ numb L 8 := by
  simp [wcells, byte1, numb, List.range, List.range.loop]
theorem wc_get (H L i j : Nat) (hj : j < 16) : (nums .u8 (wcells H L i)).toArray[j]? = some (.int .u8 (if j < 8 then (if j < i then byte1 H j else 0) else (if j - 8 < i then byte1 L (j - 8) else 0))) := by
  simp [nums, wcells, hj]
theorem wc_step (H L i : Nat) (hi : i < 8) : ((nums .u8 (wcells H L i)).toArray.setIfInBounds i (.int .u8 (byte1 H i))).setIfInBounds (8 + i) (.int .u8 (byte1 L i)) = (nums .u8 (wcells H L (i + 1))).toArray := by
  rcases (by omega : i = 0 ∨ i = 1 ∨ i = 2 ∨ i = 3 ∨ i = 4 ∨ i = 5 ∨ i = 6 ∨ i = 7) with rfl | rfl | rfl | rfl | rfl | rfl | rfl | rfl <;> simp [nums, wcells, List.range, List.range.loop]
theorem wc_step2 (H L i : Nat) (hi : i < 8) : ((nums .u8 (wcells H L i)).toArray.setIfInBounds (8 + i) (.int .u8 (byte1 L i))).setIfInBounds i (.int .u8 (byte1 H i)) = (nums .u8 (wcells H L (i + 1))).toArray := by
  rcases (by omega : i = 0 ∨ i = 1 ∨ i = 2 ∨ i = 3 ∨ i = 4 ∨ i = 5 ∨ i = 6 ∨ i = 7) with rfl | rfl | rfl | rfl | rfl | rfl | rfl | rfl <;> simp [nums, wcells, List.range, List.range.loop]
/-- What a round keeps. -/
def WcI (w : World) (H L : Nat) (hi lo : Int) (iv : Value) (wr : World) : Prop := ∃ i : Nat, i ≤ 8 ∧ iv = .int .i64 i ∧ wr.heap[w.heap.size]? = some (.cells #[.int .i64 hi, .int .u64 lo] 32 (0, 0)) ∧ wr.heap[w.heap.size + 1]? = some (.cells (nums .u8 (wcells H L i)).toArray 5 (0, 0)) ∧ Below w.heap.size w wr
theorem wc_round {w wr : World} {H L : Nat} {hi lo : Int} (i : Nat) (hi8 : i < 8) (hx : wr.heap[w.heap.size]? = some (.cells #[.int .i64 hi, .int .u64 lo] 32 (0, 0))) (hg : wr.heap[w.heap.size + 1]? = some (.cells (nums .u8 (wcells H L i)).toArray 5 (0, 0))) (hB : Below w.heap.size w wr) :
    WcI w H L hi lo (.int .i64 (i + 1 : Nat)) ((wr.setCell ⟨w.heap.size + 1, i, none⟩ (.int .u8 (byte1 H i))).setCell ⟨w.heap.size + 1, 8 + i, none⟩ (.int .u8 (byte1 L i))).drew := by
  refine ⟨i + 1, by omega, rfl, (Below.heap_setCell _ _ _ _ (by simp)).trans ((Below.heap_setCell _ _ _ _ (by simp)).trans hx), ?_, below_drew ((hB.setCell (p := ⟨w.heap.size + 1, i, none⟩) (by simp) _).setCell (p := ⟨w.heap.size + 1, 8 + i, none⟩) (by simp) _)⟩
  have := blk_put (blk_put hg i (.int .u8 (byte1 H i)) rfl) (8 + i) (.int .u8 (byte1 L i)) rfl
  rwa [wc_step H L i hi8] at this
theorem wc_round2 {w wr : World} {H L : Nat} {hi lo : Int} (i : Nat) (hi8 : i < 8) (hx : wr.heap[w.heap.size]? = some (.cells #[.int .i64 hi, .int .u64 lo] 32 (0, 0))) (hg : wr.heap[w.heap.size + 1]? = some (.cells (nums .u8 (wcells H L i)).toArray 5 (0, 0))) (hB : Below w.heap.size w wr) :
    WcI w H L hi lo (.int .i64 (i + 1 : Nat)) ((wr.setCell ⟨w.heap.size + 1, 8 + i, none⟩ (.int .u8 (byte1 L i))).setCell ⟨w.heap.size + 1, i, none⟩ (.int .u8 (byte1 H i))).drew := by
  refine ⟨i + 1, by omega, rfl, (Below.heap_setCell _ _ _ _ (by simp)).trans ((Below.heap_setCell _ _ _ _ (by simp)).trans hx), ?_, below_drew ((hB.setCell (p := ⟨w.heap.size + 1, 8 + i, none⟩) (by simp) _).setCell (p := ⟨w.heap.size + 1, i, none⟩) (by simp) _)⟩
  have := blk_put (blk_put hg (8 + i) (.int .u8 (byte1 L i)) rfl) i (.int .u8 (byte1 H i)) rfl
  rwa [wc_step2 H L i hi8] at this
set_option maxRecDepth 100000 in
set_option maxHeartbeats 4000000 in
theorem wwrite_c {w : World} {hi lo : Int} (hlo : 0 ≤ lo ∧ lo < 18446744073709551616) (hhi : -9223372036854775808 ≤ hi ∧ hi < 9223372036854775808) :
    Calls Try.prog 53 #[.agg #[.int .i64 hi, .int .u64 lo]] w fun e w' => ∃ v, e = .returned v ∧ w'.ownsRow w.heap.size 5 1 v (numb (u64N hi) 8 ++ numb (u64N lo) 8).length (nums .u8 (numb (u64N hi) 8 ++ numb (u64N lo) 8)) ∧ Below w.heap.size w w' := by
  have hmk := print_make (P := Try.prog) 23 5 .u8 1 Try.underlying23 info_u8 (by omega) 16 (by omega)
  rw [show ((16 : Nat) : Int) = 16 from rfl] at hmk
  have hw0 : wcells (u64N hi) (u64N lo) 0 = List.replicate 16 0 := by
    simp [wcells, List.range, List.range.loop]
  have hl : madeCells #[Value.int .u8 0] 16 = (nums .u8 (wcells (u64N hi) (u64N lo) 0)).toArray := by
    rw [hw0]
    apply Array.ext
    · simp [nums, madeCells]
    · intro i h1 h2
      have e : (nums .u8 (List.replicate 16 0)).toArray[i]'h2 = .int .u8 0 := by simp only [nums, List.getElem_toArray, List.getElem_map, List.getElem_replicate]
      rw [e]
      simp [madeCells, Nat.mod_one]
  rw [hl] at hmk
  clear hl hw0
  obtain ⟨w1, hw1⟩ : ∃ w1, (w.alloc (.cells #[.int .i64 hi, .int .u64 lo] 32)).alloc (.cells (nums .u8 (wcells (u64N hi) (u64N lo) 0)).toArray 5) = w1 := ⟨_, rfl⟩
  have hx : w1.heap[w.heap.size]? = some (.cells #[.int .i64 hi, .int .u64 lo] 32 (0, 0)) := by rw [← hw1]; exact al_old (al_new rfl) _
  have hg : w1.heap[w.heap.size + 1]? = some (.cells (nums .u8 (wcells (u64N hi) (u64N lo) 0)).toArray 5 (0, 0)) := by rw [← hw1]; exact al_new (by simp)
  have hB : Below w.heap.size w w1 := by rw [← hw1]; exact ((Below.refl _ w).alloc (Nat.le_refl _) _).alloc (by simp) _
  go_enter Try.func53, Try.ntmps53
  go_wp2_with fail
  go_loopw [6] (fun iv wr => WcI w (u64N hi) (u64N lo) hi lo iv wr) (fun iv _ => 8 - (intOf iv).toNat)
  case atStart => exact ⟨0, by omega, rfl, hx, hg, hB⟩
  case round =>
    clear hx hg hB hw1 hmk
    obtain ⟨i, hi8, rfl, hx, hg, hB⟩ := hrel
    by_cases hlt : i < 8
    · have x0 : wr.cell? ⟨w.heap.size, 0, none⟩ = some (.int .i64 hi) := (blk_cell hx 0).trans rfl
      have x1 : wr.cell? ⟨w.heap.size, 1, none⟩ = some (.int .u64 lo) := (blk_cell hx 1).trans rfl
      rcases (by omega : i = 0 ∨ i = 1 ∨ i = 2 ∨ i = 3 ∨ i = 4 ∨ i = 5 ∨ i = 6 ∨ i = 7) with rfl | rfl | rfl | rfl | rfl | rfl | rfl | rfl
      -- ROUNDS
      · have f0 : IntKind.i64.wrap 0 = 0 := by decide
        have f8 : IntKind.i64.wrap 8 = 8 := by decide
        have f56 : IntKind.i64.wrap 56 = 56 := by decide
        have c1 := (blk_cell hg 0).trans (wc_get (u64N hi) (u64N lo) 0 0 (by omega))
        have c2 := (blk_cell hg 8).trans (wc_get (u64N hi) (u64N lo) 0 8 (by omega))
        have z1 := blk_frozen hg 0
        have z2 := blk_frozen hg 8
        have HG := Aside0.mk hg
        clear hg
        go_wp2_with fail
        go_region_with fail
        all_goals
          go_wp2_with fail
          go_roundw
          case rel =>
            have e1 : hi / 72057594037927936 % 256 = byte1 (u64N hi) 0 := by simp only [byte1, u64N]; omega
            have e2 : lo / 72057594037927936 = byte1 (u64N lo) 0 := by simp only [byte1, u64N]; omega
            rw [e1, e2]
            first | exact wc_round 0 (by omega) hx HG.out hB | exact wc_round2 0 (by omega) hx HG.out hB
          case measure => simp [intOf]
      · have f8 : IntKind.i64.wrap 8 = 8 := by decide
        have f9 : IntKind.i64.wrap 9 = 9 := by decide
        have f48 : IntKind.i64.wrap 48 = 48 := by decide
        have c1 := (blk_cell hg 1).trans (wc_get (u64N hi) (u64N lo) 1 1 (by omega))
        have c2 := (blk_cell hg 9).trans (wc_get (u64N hi) (u64N lo) 1 9 (by omega))
        have z1 := blk_frozen hg 1
        have z2 := blk_frozen hg 9
        have HG := Aside0.mk hg
        clear hg
        go_wp2_with fail
        go_region_with fail
        all_goals
          go_wp2_with fail
          go_roundw
          case rel =>
            have e1 : hi / 281474976710656 % 256 = byte1 (u64N hi) 1 := by simp only [byte1, u64N]; omega
            have e2 : lo / 281474976710656 % 256 = byte1 (u64N lo) 1 := by simp only [byte1, u64N]; omega
            rw [e1, e2]
            first | exact wc_round 1 (by omega) hx HG.out hB | exact wc_round2 1 (by omega) hx HG.out hB
          case measure => simp [intOf]
      · have f10 : IntKind.i64.wrap 10 = 10 := by decide
        have f16 : IntKind.i64.wrap 16 = 16 := by decide
        have f40 : IntKind.i64.wrap 40 = 40 := by decide
        have c1 := (blk_cell hg 2).trans (wc_get (u64N hi) (u64N lo) 2 2 (by omega))
        have c2 := (blk_cell hg 10).trans (wc_get (u64N hi) (u64N lo) 2 10 (by omega))
        have z1 := blk_frozen hg 2
        have z2 := blk_frozen hg 10
        have HG := Aside0.mk hg
        clear hg
        go_wp2_with fail
        go_region_with fail
        all_goals
          go_wp2_with fail
          go_roundw
          case rel =>
            have e1 : hi / 1099511627776 % 256 = byte1 (u64N hi) 2 := by simp only [byte1, u64N]; omega
            have e2 : lo / 1099511627776 % 256 = byte1 (u64N lo) 2 := by simp only [byte1, u64N]; omega
            rw [e1, e2]
            first | exact wc_round 2 (by omega) hx HG.out hB | exact wc_round2 2 (by omega) hx HG.out hB
          case measure => simp [intOf]
      · have f11 : IntKind.i64.wrap 11 = 11 := by decide
        have f24 : IntKind.i64.wrap 24 = 24 := by decide
        have f32 : IntKind.i64.wrap 32 = 32 := by decide
        have c1 := (blk_cell hg 3).trans (wc_get (u64N hi) (u64N lo) 3 3 (by omega))
        have c2 := (blk_cell hg 11).trans (wc_get (u64N hi) (u64N lo) 3 11 (by omega))
        have z1 := blk_frozen hg 3
        have z2 := blk_frozen hg 11
        have HG := Aside0.mk hg
        clear hg
        go_wp2_with fail
        go_region_with fail
        all_goals
          go_wp2_with fail
          go_roundw
          case rel =>
            have e1 : hi / 4294967296 % 256 = byte1 (u64N hi) 3 := by simp only [byte1, u64N]; omega
            have e2 : lo / 4294967296 % 256 = byte1 (u64N lo) 3 := by simp only [byte1, u64N]; omega
            rw [e1, e2]
            first | exact wc_round 3 (by omega) hx HG.out hB | exact wc_round2 3 (by omega) hx HG.out hB
          case measure => simp [intOf]
      · have f12 : IntKind.i64.wrap 12 = 12 := by decide
        have f24 : IntKind.i64.wrap 24 = 24 := by decide
        have f32 : IntKind.i64.wrap 32 = 32 := by decide
        have c1 := (blk_cell hg 4).trans (wc_get (u64N hi) (u64N lo) 4 4 (by omega))
        have c2 := (blk_cell hg 12).trans (wc_get (u64N hi) (u64N lo) 4 12 (by omega))
        have z1 := blk_frozen hg 4
        have z2 := blk_frozen hg 12
        have HG := Aside0.mk hg
        clear hg
        go_wp2_with fail
        go_region_with fail
        all_goals
          go_wp2_with fail
          go_roundw
          case rel =>
            have e1 : hi / 16777216 % 256 = byte1 (u64N hi) 4 := by simp only [byte1, u64N]; omega
            have e2 : lo / 16777216 % 256 = byte1 (u64N lo) 4 := by simp only [byte1, u64N]; omega
            rw [e1, e2]
            first | exact wc_round 4 (by omega) hx HG.out hB | exact wc_round2 4 (by omega) hx HG.out hB
          case measure => simp [intOf]
      · have f13 : IntKind.i64.wrap 13 = 13 := by decide
        have f16 : IntKind.i64.wrap 16 = 16 := by decide
        have f40 : IntKind.i64.wrap 40 = 40 := by decide
        have c1 := (blk_cell hg 5).trans (wc_get (u64N hi) (u64N lo) 5 5 (by omega))
        have c2 := (blk_cell hg 13).trans (wc_get (u64N hi) (u64N lo) 5 13 (by omega))
        have z1 := blk_frozen hg 5
        have z2 := blk_frozen hg 13
        have HG := Aside0.mk hg
        clear hg
        go_wp2_with fail
        go_region_with fail
        all_goals
          go_wp2_with fail
          go_roundw
          case rel =>
            have e1 : hi / 65536 % 256 = byte1 (u64N hi) 5 := by simp only [byte1, u64N]; omega
            have e2 : lo / 65536 % 256 = byte1 (u64N lo) 5 := by simp only [byte1, u64N]; omega
            rw [e1, e2]
            first | exact wc_round 5 (by omega) hx HG.out hB | exact wc_round2 5 (by omega) hx HG.out hB
          case measure => simp [intOf]
      · have f8 : IntKind.i64.wrap 8 = 8 := by decide
        have f14 : IntKind.i64.wrap 14 = 14 := by decide
        have f48 : IntKind.i64.wrap 48 = 48 := by decide
        have c1 := (blk_cell hg 6).trans (wc_get (u64N hi) (u64N lo) 6 6 (by omega))
        have c2 := (blk_cell hg 14).trans (wc_get (u64N hi) (u64N lo) 6 14 (by omega))
        have z1 := blk_frozen hg 6
        have z2 := blk_frozen hg 14
        have HG := Aside0.mk hg
        clear hg
        go_wp2_with fail
        go_region_with fail
        all_goals
          go_wp2_with fail
          go_roundw
          case rel =>
            have e1 : hi / 256 % 256 = byte1 (u64N hi) 6 := by simp only [byte1, u64N]; omega
            have e2 : lo / 256 % 256 = byte1 (u64N lo) 6 := by simp only [byte1, u64N]; omega
            rw [e1, e2]
            first | exact wc_round 6 (by omega) hx HG.out hB | exact wc_round2 6 (by omega) hx HG.out hB
          case measure => simp [intOf]
      · have f0 : IntKind.i64.wrap 0 = 0 := by decide
        have f15 : IntKind.i64.wrap 15 = 15 := by decide
        have f56 : IntKind.i64.wrap 56 = 56 := by decide
        have c1 := (blk_cell hg 7).trans (wc_get (u64N hi) (u64N lo) 7 7 (by omega))
        have c2 := (blk_cell hg 15).trans (wc_get (u64N hi) (u64N lo) 7 15 (by omega))
        have z1 := blk_frozen hg 7
        have z2 := blk_frozen hg 15
        have HG := Aside0.mk hg
        clear hg
        go_wp2_with fail
        go_region_with fail
        all_goals
          go_wp2_with fail
          go_roundw
          case rel =>
            have e1 : hi % 256 = byte1 (u64N hi) 7 := by simp only [byte1, u64N]; omega
            have e2 : lo % 256 = byte1 (u64N lo) 7 := by simp only [byte1, u64N]; omega
            rw [e1, e2]
            first | exact wc_round 7 (by omega) hx HG.out hB | exact wc_round2 7 (by omega) hx HG.out hB
          case measure => simp [intOf]
    · obtain rfl : i = 8 := by omega
      rw [wcells_all] at hg
      go_wp2
      go_ret
      refine ⟨_, rfl, ⟨by simp [nums, numb_length], .inr ⟨w.heap.size + 1, 16, _, by simp [numb_length], by omega, hg, by simp [numb_length], by simp [maxLen], by simp [nums, numb_length], ?_⟩⟩, hB⟩
      rw [List.take_of_length_le (by simp [nums, numb_length])]
/-- The bytes of what is known. -/
def aggB (a : Ag) : List Int := (([(if a.o then 1 else 0 : Int)] ++ numb (u64N a.c) 8) ++ (numb (u64N a.hi) 8 ++ numb (u64N a.lo) 8)) ++ numb (u64N a.mn) 8 ++ numb (u64N a.mx) 8
theorem aggB_len (a : Ag) : (aggB a).length = 41 := by simp [aggB, numb_length]
theorem aggB_byt (a : Ag) : Byt (aggB a) := by
  unfold aggB
  have hb : ∀ {k l : List Int}, Byt k → Byt l → Byt (k ++ l) := fun h h' x hx => by
    rcases List.mem_append.1 hx with hx | hx
    · exact h x hx
    · exact h' x hx
  refine hb (hb (hb (hb ?_ (numb_byt _ _)) (hb (numb_byt _ _) (numb_byt _ _))) (numb_byt _ _)) (numb_byt _ _)
  intro x hx
  rw [List.mem_singleton.1 hx]
  split <;> omega
theorem u64_wrap (z : Int) : IntKind.u64.wrap z = ((u64N z : Nat) : Int) := by rw [IntKind.wrap_u64]; unfold u64N; omega
/-- The box of what is to be written. -/
structure AwI (w : World) (c0 c1 c2 c3 c4 c5 : Value) (W : World) : Prop where
  bx : W.heap[w.heap.size]? = some (.cells #[c0, c1, c2, c3, c4, c5] 34 (0, 0))
  be : Below w.heap.size w W
  sz : w.heap.size < W.heap.size
theorem AwI.below {w W W1 : World} {c0 c1 c2 c3 c4 c5 : Value} (h : AwI w c0 c1 c2 c3 c4 c5 W) (hb : Below W.heap.size W W1) : AwI w c0 c1 c2 c3 c4 c5 W1 := ⟨(hb.block _ h.sz).trans h.bx, h.be.trans (hb.mono h.be.size), Nat.lt_of_lt_of_le h.sz hb.size⟩
theorem AwI.grown {w W W1 : World} {c0 c1 c2 c3 c4 c5 v : Value} {n : Nat} {xs : List Value} (h : AwI w c0 c1 c2 c3 c4 c5 W) (hg : W.grownBy W1 v.ownBlock) (ho : W.ownsRow (w.heap.size + 1) 5 1 v n xs) : AwI w c0 c1 c2 c3 c4 c5 W1 := by
  refine ⟨(hg.block _ h.sz (fun e => ?_)).trans h.bx, h.be.grown hg h.be.size (fun k hk => by have := (ho.lt k hk).1; omega), Nat.lt_of_lt_of_le h.sz hg.size⟩
  have := (ho.lt _ e.symm).1
  omega
theorem AwI.s {w W : World} {c0 c1 c2 c3 c4 c5 : Value} (h : AwI w c0 c1 c2 c3 c4 c5 W) : W.cell? ⟨w.heap.size, 0, none⟩ = some c0 ∧ W.cell? ⟨w.heap.size, 1, none⟩ = some c1 ∧ W.cell? ⟨w.heap.size, 2, none⟩ = some c2 ∧ W.cell? ⟨w.heap.size, 3, none⟩ = some c3 ∧ W.cell? ⟨w.heap.size, 4, none⟩ = some c4 ∧ W.cell? ⟨w.heap.size, 5, none⟩ = some c5 ∧ AwI w c0 c1 c2 c3 c4 c5 W :=
  ⟨(blk_cell h.bx 0).trans rfl, (blk_cell h.bx 1).trans rfl, (blk_cell h.bx 2).trans rfl, (blk_cell h.bx 3).trans rfl, (blk_cell h.bx 4).trans rfl, (blk_cell h.bx 5).trans rfl, h⟩
theorem AwI.s2 {w W : World} {c0 c1 c2 c3 c4 c5 : Value} (h : AwI w c0 c1 c2 c3 c4 c5 W) : W.cell? ⟨w.heap.size, 0, none⟩ = some c0 ∧ W.cell? ⟨w.heap.size, 2, none⟩ = some c2 ∧ W.cell? ⟨w.heap.size, 2 + 1, none⟩ = some c3 := ⟨(blk_cell h.bx 0).trans rfl, (blk_cell h.bx 2).trans rfl, (blk_cell h.bx 3).trans rfl⟩
theorem AwI.s3 {w W : World} {c0 c1 c2 c3 c4 c5 : Value} (h : AwI w c0 c1 c2 c3 c4 c5 W) : W.cell? ⟨w.heap.size, 4, none⟩ = some c4 ∧ W.cell? ⟨w.heap.size, 5, none⟩ = some c5 := ⟨(blk_cell h.bx 4).trans rfl, (blk_cell h.bx 5).trans rfl⟩
set_option maxRecDepth 100000 in
set_option maxHeartbeats 4000000 in
theorem awrite_c {w : World} {a : Ag} (hg : Gd a) : Calls Try.prog 31 #[a.v] w fun e w' => ∃ v, e = .returned (.tuple #[v, .int .i64 0]) ∧ w'.ownsRow w.heap.size 5 1 v (aggB a).length (nums .u8 (aggB a)) ∧ Below w.heap.size w w' := by
  have HG := Aside0.mk hg
  obtain ⟨ac, ao, ah, al, an, ax⟩ := a
  have hcu : ac = ((u64N ac : Nat) : Int) := by have := hg.ok.c; simp only at this; unfold u64N; omega
  have hok := hg.ok
  have hB1 := (Below.refl w.heap.size w).alloc (Nat.le_refl _) (.cells #[.int .u64 ac, .bool ao, .int .i64 ah, .int .u64 al, .int .i64 an, .int .i64 ax] 34)
  have hI1 : AwI w (.int .u64 ac) (.bool ao) (.int .i64 ah) (.int .u64 al) (.int .i64 an) (.int .i64 ax) (w.alloc (.cells #[.int .u64 ac, .bool ao, .int .i64 ah, .int .u64 al, .int .i64 an, .int .i64 ax] 34)) := ⟨al_new rfl, hB1, by simp⟩
  have hrt := right_gd (w := w.alloc (.cells #[.int .u64 ac, .bool ao, .int .i64 ah, .int .u64 al, .int .i64 an, .int .i64 ax] 34)) hg
  have HC := Aside0.mk hcu
  have HOK := Aside0.mk hok
  have HI := Aside0.mk hI1
  clear hg hcu hok hI1 hB1
  unfold Ag.v at hrt ⊢
  go_enter Try.func31, Try.ntmps31
  go_wp2_with fail
  refine hrt.mono ?_
  rintro e w2 ⟨rfl, hb2⟩
  have hI2 := HI.out.below hb2
  clear hrt hb2 HI
  obtain ⟨y0, y1, y2, y3, y4, y5, _⟩ := hI2.s
  obtain ⟨w3, hw3⟩ : ∃ w3, w2.alloc (.cells #[.int .u8 0] 5) = w3 := ⟨_, rfl⟩
  have hI3 : AwI w (.int .u64 ac) (.bool ao) (.int .i64 ah) (.int .u64 al) (.int .i64 an) (.int .i64 ax) w3 := by rw [← hw3]; exact hI2.below ((Below.refl _ w2).alloc (Nat.le_refl _) _)
  have hn3 : w3.heap[w2.heap.size]? = some (.cells #[.int .u8 0] 5 (0, 0)) := by rw [← hw3]; exact al_new rfl
  have x0 : w3.cell? ⟨w2.heap.size, 0, none⟩ = some (.int .u8 0) := (blk_cell hn3 0).trans rfl
  have f0 := blk_frozen hn3 0
  have hs2 := hI2.sz
  have hne : w.heap.size ≠ w2.heap.size := Nat.ne_of_lt hs2
  clear y0 y1 y2 y3 y4 y5
  obtain ⟨y0, y1, y2, y3, y4, y5, _⟩ := hI3.s
  obtain ⟨w4, hI4, hn4, hw4⟩ : ∃ w4, AwI w (.int .u64 ac) (.bool ao) (.int .i64 ah) (.int .u64 al) (.int .i64 an) (.int .i64 ax) w4 ∧ w4.heap[w2.heap.size]? = some (.cells #[.int .u8 (if ao then 1 else 0)] 5 (0, 0)) ∧ (if ao then w3.setCell ⟨w2.heap.size, 0, none⟩ (.int .u8 1) else w3) = w4 := by
    cases ao
    · exact ⟨w3, hI3, hn3, rfl⟩
    · exact ⟨_, ⟨(Below.heap_setCell _ _ _ _ hne).trans hI3.bx, hI3.be.setCell (p := ⟨w2.heap.size, 0, none⟩) (Nat.le_of_lt hs2) _, by simpa [World.setCell] using hI3.sz⟩, blk_put hn3 0 _ rfl, rfl⟩
  have ho4 : w4.ownsRow (w.heap.size + 1) 5 1 (.slice (some ⟨w2.heap.size, 0, none⟩) 1 1) [(if ao then 1 else 0 : Int)].length (nums .u8 [(if ao then 1 else 0 : Int)]) := ⟨rfl, .inr ⟨w2.heap.size, 1, _, rfl, hs2, hn4, Nat.le_refl _, by simp [maxLen], rfl, rfl⟩⟩
  have HI4 := Aside0.mk hI4
  have HO4 := Aside0.mk ho4
  have HW4 := Aside0.mk hw4
  clear hI2 hI3 hn3 hI4 hn4 ho4 hw4
  have hend : ∀ (v : Value) (W : World), W.ownsRow (w.heap.size + 1) 5 1 v (aggB ⟨ac, ao, ah, al, an, ax⟩).length (nums .u8 (aggB ⟨ac, ao, ah, al, an, ax⟩)) → Below w.heap.size w W → ∃ v_1, Ending.returned (.tuple #[v, .int .i64 0]) = .returned (.tuple #[v_1, .int .i64 0]) ∧ W.ownsRow w.heap.size 5 1 v_1 (aggB ⟨ac, ao, ah, al, an, ax⟩).length (nums .u8 (aggB ⟨ac, ao, ah, al, an, ax⟩)) ∧ Below w.heap.size w W := fun v W ho hb => ⟨v, rfl, own_low ho (by omega), hb⟩
  have HEND := Aside0.mk hend
  clear hend
  cases hao : ao
  all_goals
    rw [hao] at y1 HW4 HI4 HO4 HEND
    simp only [if_true, if_false, Bool.false_eq_true] at HW4 HI4 HO4
    have HAO := Aside0.mk hao
    clear hao
    go_wp2_with fail
    rw [HW4.out]
    clear y0 y1 y2 y3 y4 y5 x0 f0
    have hI5 := HI4.out.below (below_drew (Below.refl w4.heap.size w4))
    have ho5 := own_below HO4.out (below_drew (Below.refl w4.heap.size w4))
    have h8 := aeight_c (u := u64N ac) (B := w.heap.size + 1) hI5.sz ho5 (by simp)
    rw [← HC.out] at h8
    have HH8 := Aside0.mk h8
    have HO5 := Aside0.mk ho5
    clear h8 ho5
    have hlo := HOK.out.lo
    have hhi := HOK.out.hi
    simp only at hlo hhi
    go_region_held3 (fun w' => w'.cell? ⟨w.heap.size, 0, none⟩ = some (.int .u64 ac) ∧ w'.cell? ⟨w.heap.size, 2, none⟩ = some (.int .i64 ah) ∧ w'.cell? ⟨w.heap.size, 2 + 1, none⟩ = some (.int .u64 al)) (exact AwI.s2 (by assumption)) (first
      | (go_at_call 52
         refine HH8.out.mono ?_
         rintro e w6 ⟨v6, rfl, ho6, hg6, hat6⟩
         have hI6 := hI5.grown hg6 HO5.out
         have HO6 := Aside0.mk ho6
         clear ho6 hg6 hat6)
      | (go_at_call 53
         refine (wwrite_c hlo hhi).mono ?_
         rintro e w7 ⟨v7, rfl, ho7, hb7⟩
         have hI7 := hI6.below hb7
         have ho67 := own_below HO6.out hb7
         obtain ⟨A7, c7, rfl, hr7, hc7, hn7, _⟩ := own_form ho7
         have HO67 := Aside0.mk ho67
         have HR7 := Aside0.mk hr7
         clear ho7 hr7 ho67 hb7)
      | (refine step_append_bytes rfl _ _ (by rfl) (by rfl) (by rfl) HO67.out HR7.out hn7 (by simp [numb_length]) hI7.sz ?_
         intro v8 w8 ho8 hg8 hat8
         have hI8 := hI7.grown hg8 HO67.out))
    have hlast : aggB ⟨ac, ao, ah, al, an, ax⟩ = (([(if ao then 1 else 0 : Int)] ++ numb (u64N ac) 8 ++ (numb (u64N ah) 8 ++ numb (u64N al) 8)) ++ numb (u64N an) 8) ++ numb (u64N ax) 8 := rfl
    rw [HAO.out] at hlast
    simp only [if_true, if_false, Bool.false_eq_true] at hlast
    rw [hlast] at HEND
    have HL := Aside0.mk hlast
    have HO8 := Aside0.mk ho8
    clear HO6 HO67 HR7 hI6 hI7 hlo hhi hI5 HO5 HI4 HO4 HW4 HH8 hn7 hc7 hg8 hat8 ho8 hlast
    go_wp2_with fail
    have hI9 := hI8.below (below_drew (Below.refl w8.heap.size w8))
    have ho9 := own_below HO8.out (below_drew (Below.refl w8.heap.size w8))
    have h9 := aeight_c (u := u64N an) (B := w.heap.size + 1) hI9.sz ho9 (by simp [numb_length])
    rw [← u64_wrap] at h9
    have HH9 := Aside0.mk h9
    have HO9 := Aside0.mk ho9
    clear h9 ho9
    go_region_held3 (fun w' => w'.cell? ⟨w.heap.size, 4, none⟩ = some (.int .i64 an) ∧ w'.cell? ⟨w.heap.size, 5, none⟩ = some (.int .i64 ax)) (exact AwI.s3 (by assumption)) (first
      | (go_at_call 52
         first
         | (refine HHb.out.mono ?_
            rintro e wb ⟨vb, rfl, hob, hgb, hatb⟩
            have hIb := hIa.grown hgb HOa.out
            have HOb := Aside0.mk hob
            clear hob hgb hatb)
         | (refine HH9.out.mono ?_
            rintro e wa ⟨va, rfl, hoa, hga, hata⟩
            have hIa := hI9.grown hga HO9.out
            have hb := aeight_c (u := u64N ax) (B := w.heap.size + 1) hIa.sz hoa (by simp [numb_length])
            rw [← u64_wrap] at hb
            have HHb := Aside0.mk hb
            have HOa := Aside0.mk hoa
            clear hoa hga hata hb)))
    go_wp2_with fail
    go_ret2
    rw [HAO.out, HL.out]
    exact HEND.out vb wb HOb.out hIb.be
theorem numb_rd (u j : Nat) (hj : j < 8) : rd (numb u 8) ((8 - (j + 1) : Nat) : Int) = ((u / 2 ^ (8 * j) % 256 : Nat) : Int) := by
  rcases (by omega : j = 0 ∨ j = 1 ∨ j = 2 ∨ j = 3 ∨ j = 4 ∨ j = 5 ∨ j = 6 ∨ j = 7) with rfl | rfl | rfl | rfl | rfl | rfl | rfl | rfl <;> simp [numb, rd]
theorem shift_nat (u j : Nat) (hj : j < 8) (hu : u < 18446744073709551616) : u / 2 ^ (8 * (j + 1)) * 256 + u / 2 ^ (8 * j) % 256 = u / 2 ^ (8 * j) ∧ u / 2 ^ (8 * (j + 1)) < 72057594037927936 := by
  rcases (by omega : j = 0 ∨ j = 1 ∨ j = 2 ∨ j = 3 ∨ j = 4 ∨ j = 5 ∨ j = 6 ∨ j = 7) with rfl | rfl | rfl | rfl | rfl | rfl | rfl | rfl <;> simp <;> omega
theorem anum_step (u j : Nat) (hj : j < 8) (hu : u < 18446744073709551616) : Go.bits .or .u64 (IntKind.u64.wrap (((u / 2 ^ (8 * (j + 1)) : Nat) : Int) * 256)) (IntKind.u64.wrap (rd (numb u 8) ((8 - (j + 1) : Nat) : Int))) = ((u / 2 ^ (8 * j) : Nat) : Int) := by
  have h := shift_nat u j hj hu
  rw [numb_rd u j hj, or_byte _ _ h.2 (by omega), h.1]
theorem anum_l0 (u : Nat) (hu : u < 18446744073709551616) : ∀ j k : Nat, j ≤ 8 → j < k → Lib.agg_number.l0 k ((u / 2 ^ (8 * j) : Nat) : Int) (numb u 8) 8 ((8 - j : Nat) : Int) = some (u : Int)
  | 0, 0, _, h => by omega
  | 0, k + 1, _, _ => by
    simp only [Lib.agg_number.l0]
    rw [if_neg (by omega)]
    simp
  | j + 1, 0, _, h => by omega
  | j + 1, k + 1, h8, hk => by
    simp only [Lib.agg_number.l0]
    rw [if_pos (by omega), if_pos (by omega), if_pos (by rw [numb_length]; omega), anum_step u j (by omega) hu]
    have e : wrap64 (((8 - (j + 1) : Nat) : Int) + 1) = ((8 - j : Nat) : Int) := by rw [w64 (by omega) (by omega)]; omega
    rw [e]
    exact anum_l0 u hu j k (by omega) (by omega)
theorem anum_f (u : Nat) (hu : u < 18446744073709551616) : Lib.agg_number.f 9 (numb u 8) = some (u : Int) := by
  have h := anum_l0 u hu 8 9 (by omega) (by omega)
  unfold Lib.agg_number.f
  rw [numb_length]
  rw [show u / 2 ^ (8 * 8) = 0 from Nat.div_eq_of_lt hu] at h
  exact h
theorem anum_c {w : World} {A : Option Addr} {c n u : Nat} (hu : u < 18446744073709551616) (h : RdB w A (numb u 8)) (hn : n = 8) (hc : n ≤ c) :
    Calls Try.prog 72 #[.slice A n c] w fun e w' => e = .returned (.int .u64 u) ∧ Drawn0 w w' := by
  have := Lib.agg_number.calls 9 A c (numb u 8) u w h (by rw [numb_length]; omega) (anum_f u hu)
  rw [numb_length] at this
  rw [hn]
  exact this
/-- Digits with a sign. -/
theorem or_byte_i (x c : Nat) (hx : x < 72057594037927936) (hc : c < 256) : Go.bits .or .i64 (IntKind.i64.wrap ((x : Int) * 256)) (c : Int) = IntKind.i64.wrap ((x * 256 + c : Nat) : Int) := by
  have hor : x * 256 ||| c = x * 256 + c := by
    have h := Nat.two_pow_add_eq_or_of_lt (i := 8) (show c < 2 ^ 8 from hc) x
    rw [Nat.mul_comm x 256]
    exact h.symm
  have h1 : BitVec.ofInt 64 (IntKind.i64.wrap ((x : Int) * 256)) = BitVec.ofNat 64 (x * 256) := by
    apply BitVec.eq_of_toNat_eq
    rw [BitVec.toNat_ofInt, BitVec.toNat_ofNat, IntKind.wrap_i64]
    omega
  show IntKind.i64.wrap ((((BitVec.ofInt 64 (IntKind.i64.wrap ((x : Int) * 256))) ||| (BitVec.ofInt 64 (c : Int))).toNat : Nat) : Int) = _
  rw [h1, BitVec.ofInt_natCast, BitVec.toNat_or, BitVec.toNat_ofNat, BitVec.toNat_ofNat, Nat.mod_eq_of_lt (show x * 256 < 2 ^ 64 by omega), Nat.mod_eq_of_lt (show c < 2 ^ 64 by omega), hor]
/-- A result in memory, and one that is not. -/
theorem results_row_tmp {P : Program} {fn : Func} {p u : Tmp} {ty : TypeId} (h : fn.results = #[.cell p ty, .tmp u]) (tmps : Array Value) (w : World) (g : Nat) (t : TypeId) (cs : Array Value) (fr : Nat × Nat) (d : TypeDesc)
    (hp : tmps.getD p undef = .pointer (some ⟨g, 0, none⟩)) (hg : w.heap[g]? = some (.cells cs t fr))
    (hu : P.underlying ty = some d) (hd : (match d with | .struct _ | .array _ _ => true | _ => false) = true) (hi : (P.info? ty).map (·.size) = some cs.size) :
    (results fn tmps).run P w = .ok (.tuple #[.agg cs, tmps.getD u undef]) w := by
  rw [results_cell_tmp h, hp]
  simp [asAddr, run_loadVar_row w g t ty cs fr d hg hu hd hi, Result.andThen]
/-- What a round of the reading keeps. -/
def WrI (w : World) (H L : Nat) (iv : Value) (wr : World) : Prop := ∃ i : Nat, i ≤ 8 ∧ iv = .int .i64 i ∧ wr.heap[w.heap.size]? = some (.cells #[.int .i64 0, .int .u64 0] 32 (0, 0)) ∧ wr.heap[w.heap.size + 1]? = some (.cells #[.int .i64 (IntKind.i64.wrap ((H / 2 ^ (64 - 8 * i) : Nat) : Int)), .int .u64 ((L / 2 ^ (64 - 8 * i) : Nat) : Int)] 32 (0, 0)) ∧ Below w.heap.size w wr
theorem wr_at (H L i : Nat) (hi : i < 8) : (nums .u8 (numb H 8 ++ numb L 8))[i]? = some (.int .u8 (byte1 H i)) := by
  rcases (by omega : i = 0 ∨ i = 1 ∨ i = 2 ∨ i = 3 ∨ i = 4 ∨ i = 5 ∨ i = 6 ∨ i = 7) with rfl | rfl | rfl | rfl | rfl | rfl | rfl | rfl <;> simp [nums, numb, byte1]
theorem wr_at2 (H L i : Nat) (hi : i < 8) : (nums .u8 (numb H 8 ++ numb L 8))[8 + i]? = some (.int .u8 (byte1 L i)) := by
  rcases (by omega : i = 0 ∨ i = 1 ∨ i = 2 ∨ i = 3 ∨ i = 4 ∨ i = 5 ∨ i = 6 ∨ i = 7) with rfl | rfl | rfl | rfl | rfl | rfl | rfl | rfl <;> simp [nums, numb, byte1]
theorem wr_sum (H i : Nat) (hi : i < 8) (hH : H < 18446744073709551616) : H / 2 ^ (64 - 8 * i) * 256 + H / 2 ^ (56 - 8 * i) % 256 = H / 2 ^ (64 - 8 * (i + 1)) ∧ H / 2 ^ (64 - 8 * i) < 72057594037927936 := by
  have h := shift_nat H (7 - i) (by omega) hH
  rw [show 8 * (7 - i + 1) = 64 - 8 * i by omega, show 8 * (7 - i) = 56 - 8 * i by omega] at h
  rw [show 64 - 8 * (i + 1) = 56 - 8 * i by omega]
  exact h
theorem wr_step (H L i : Nat) (hi : i < 8) (hH : H < 18446744073709551616) (hL : L < 18446744073709551616) :
    Go.bits .or .i64 (wrap64 (IntKind.i64.wrap ((H / 2 ^ (64 - 8 * i) : Nat) : Int) * 256)) (wrap64 (byte1 H i)) = IntKind.i64.wrap ((H / 2 ^ (64 - 8 * (i + 1)) : Nat) : Int) ∧
    Go.bits .or .u64 (IntKind.u64.wrap (((L / 2 ^ (64 - 8 * i) : Nat) : Int) * 256)) (IntKind.u64.wrap (byte1 L i)) = ((L / 2 ^ (64 - 8 * (i + 1)) : Nat) : Int) := by
  have h := wr_sum H i hi hH
  have h' := wr_sum L i hi hL
  have e : ∀ n : Nat, n < 72057594037927936 → IntKind.i64.wrap (n : Int) = n := fun n hn => by rw [IntKind.wrap_i64]; omega
  have ew : ∀ x : Int, wrap64 x = IntKind.i64.wrap x := fun x => by rw [IntKind.wrap_i64]; unfold wrap64; omega
  unfold byte1
  refine ⟨?_, ?_⟩
  · rw [ew, ew, e _ h.2, e _ (by omega), or_byte_i _ _ h.2 (by omega), h.1]
  · rw [or_byte _ _ h'.2 (by omega), h'.1]
theorem wr_rd (H L i : Nat) (hi : i < 8) : rd (numb H 8 ++ numb L 8) (i : Int) = byte1 H i := by
  rcases (by omega : i = 0 ∨ i = 1 ∨ i = 2 ∨ i = 3 ∨ i = 4 ∨ i = 5 ∨ i = 6 ∨ i = 7) with rfl | rfl | rfl | rfl | rfl | rfl | rfl | rfl <;> simp [rd, numb, byte1]
theorem wr_rd2 (H L i : Nat) (hi : i < 8) : rd (numb H 8 ++ numb L 8) ((8 + i : Nat) : Int) = byte1 L i := by
  rcases (by omega : i = 0 ∨ i = 1 ∨ i = 2 ∨ i = 3 ∨ i = 4 ∨ i = 5 ∨ i = 6 ∨ i = 7) with rfl | rfl | rfl | rfl | rfl | rfl | rfl | rfl <;> simp [rd, numb, byte1]
theorem wr_ne {a : Addr} {n : Nat} (h : a.block < n) (j k : Nat) : (⟨n + 1, j, none⟩ : Addr) ≠ a.add k := by
  intro e
  have : (a.add k).block = a.block := by unfold Addr.add; split <;> rfl
  rw [← e] at this
  simp only at this
  omega
theorem wr_close {w wr : World} {H L i : Nat} {X Y X' Y' : Int} (hi : i < 8) (hx : wr.heap[w.heap.size]? = some (.cells #[.int .i64 0, .int .u64 0] 32 (0, 0))) (hg : wr.heap[w.heap.size + 1]? = some (.cells #[.int .i64 X, .int .u64 Y] 32 (0, 0))) (hB : Below w.heap.size w wr)
    (hX : X' = IntKind.i64.wrap ((H / 2 ^ (64 - 8 * (i + 1)) : Nat) : Int)) (hY : Y' = ((L / 2 ^ (64 - 8 * (i + 1)) : Nat) : Int)) :
    WrI w H L (.int .i64 ((i + 1 : Nat) : Int)) ((wr.setCell ⟨w.heap.size + 1, 0, none⟩ (.int .i64 X')).setCell ⟨w.heap.size + 1, 1, none⟩ (.int .u64 Y')).drew := by
  subst hX hY
  exact ⟨i + 1, by omega, rfl, (Below.heap_setCell _ _ _ _ (by simp)).trans ((Below.heap_setCell _ _ _ _ (by simp)).trans hx), blk_put (blk_put hg 0 _ rfl) 1 _ rfl, below_drew ((hB.setCell (p := ⟨w.heap.size + 1, 0, none⟩) (by simp) _).setCell (p := ⟨w.heap.size + 1, 1, none⟩) (by simp) _)⟩
theorem wr_close2 {w wr : World} {H L i : Nat} {X Y X' Y' : Int} (hi : i < 8) (hx : wr.heap[w.heap.size]? = some (.cells #[.int .i64 0, .int .u64 0] 32 (0, 0))) (hg : wr.heap[w.heap.size + 1]? = some (.cells #[.int .i64 X, .int .u64 Y] 32 (0, 0))) (hB : Below w.heap.size w wr)
    (hX : X' = IntKind.i64.wrap ((H / 2 ^ (64 - 8 * (i + 1)) : Nat) : Int)) (hY : Y' = ((L / 2 ^ (64 - 8 * (i + 1)) : Nat) : Int)) :
    WrI w H L (.int .i64 ((i + 1 : Nat) : Int)) ((wr.setCell ⟨w.heap.size + 1, 1, none⟩ (.int .u64 Y')).setCell ⟨w.heap.size + 1, 0, none⟩ (.int .i64 X')).drew := by
  subst hX hY
  exact ⟨i + 1, by omega, rfl, (Below.heap_setCell _ _ _ _ (by simp)).trans ((Below.heap_setCell _ _ _ _ (by simp)).trans hx), blk_put (blk_put hg 1 _ rfl) 0 _ rfl, below_drew ((hB.setCell (p := ⟨w.heap.size + 1, 1, none⟩) (by simp) _).setCell (p := ⟨w.heap.size + 1, 0, none⟩) (by simp) _)⟩
set_option maxRecDepth 100000 in
set_option maxHeartbeats 0 in
theorem wread_c {w : World} {A : Option Addr} {c H L : Nat} (hH : H < 18446744073709551616) (hL : L < 18446744073709551616) (hr : RdB w A (numb H 8 ++ numb L 8)) (hc : 16 ≤ c) :
    Calls Try.prog 73 #[.slice A 16 c] w fun e w' => e = .returned (.tuple #[.agg #[.int .i64 (IntKind.i64.wrap H), .int .u64 L], .int .i64 0]) ∧ Below w.heap.size w w' := by
  obtain ⟨w1, hw1⟩ : ∃ w1, (w.alloc (.cells #[.int .i64 0, .int .u64 0] 32)).alloc (.cells #[.int .i64 0, .int .u64 0] 32) = w1 := ⟨_, rfl⟩
  have hx : w1.heap[w.heap.size]? = some (.cells #[.int .i64 0, .int .u64 0] 32 (0, 0)) := by rw [← hw1]; exact al_old (al_new rfl) _
  have hg : w1.heap[w.heap.size + 1]? = some (.cells #[.int .i64 0, .int .u64 0] 32 (0, 0)) := by rw [← hw1]; exact al_new (by simp)
  have hB : Below w.heap.size w w1 := by rw [← hw1]; exact ((Below.refl _ w).alloc (Nat.le_refl _) _).alloc (by simp) _
  have HR := Aside0.mk hr
  have HC := Aside0.mk hc
  clear hr hc
  go_enter Try.func73, Try.ntmps73
  go_wp2_with fail
  go_loopw [14] (fun iv wr => WrI w H L iv wr) (fun iv _ => 8 - (intOf iv).toNat)
  case atStart =>
    refine ⟨0, by omega, rfl, hx, ?_, hB⟩
    rw [show H / 2 ^ (64 - 8 * 0) = 0 from Nat.div_eq_of_lt hH, show L / 2 ^ (64 - 8 * 0) = 0 from Nat.div_eq_of_lt hL]
    exact hg
  case round =>
    clear hx hg hB hw1
    obtain ⟨i, hi8, rfl, hx, hg, hB⟩ := hrel
    have hr := HR.out.below hB
    obtain ⟨a, rfl⟩ : ∃ a, A = some a := by
      obtain ⟨ad, e, _⟩ := Kd.at_int hr 0 (by omega) (by simp [numb_length])
      exact ⟨ad, e⟩
    by_cases hlt : i < 8
    · have y0 : wr.cell? ⟨w.heap.size + 1, 0, none⟩ = some (.int .i64 (IntKind.i64.wrap ((H / 2 ^ (64 - 8 * i) : Nat) : Int))) := (blk_cell hg 0).trans rfl
      have y1 : wr.cell? ⟨w.heap.size + 1, 1, none⟩ = some (.int .u64 ((L / 2 ^ (64 - 8 * i) : Nat) : Int)) := (blk_cell hg 1).trans rfl
      have z0 := blk_frozen hg 0
      have z1 := blk_frozen hg 1
      obtain ⟨ad, e, c1⟩ := Kd.at_int hr (i : Int) (by omega) (by simp [numb_length]; omega)
      cases e
      obtain ⟨ad, e, c2⟩ := Kd.at_int hr ((8 + i : Nat) : Int) (by omega) (by simp [numb_length]; omega)
      cases e
      rw [wr_rd H L i hlt] at c1
      rw [wr_rd2 H L i hlt] at c2
      have HX := Aside0.mk (wr_step H L i hlt hH hL)
      have HI := Aside0.mk hlt
      generalize hX : IntKind.i64.wrap ((H / 2 ^ (64 - 8 * i) : Nat) : Int) = X at y0 hg HX
      generalize hY : ((L / 2 ^ (64 - 8 * i) : Nat) : Int) = Y at y1 hg HX
      generalize byte1 H i = b1 at c1 HX
      generalize byte1 L i = b2 at c2 HX
      have p1 : 0 ≤ (i : Int) := by omega
      have q1 : (i : Int) < 16 := by omega
      have q2 : (i : Int) < 8 := by omega
      have p3 : 0 ≤ ((8 + i : Nat) : Int) := by omega
      have q3 : ((8 + i : Nat) : Int) < 16 := by omega
      have s1 : IntKind.i64.wrap (8 + (i : Int)) = ((8 + i : Nat) : Int) := by rw [IntKind.wrap_i64]; omega
      have s2 : wrap64 (8 + (i : Int)) = ((8 + i : Nat) : Int) := by rw [w64 (by omega) (by omega)]; omega
      have s3 : wrap64 ((i : Int) + 1) = ((i + 1 : Nat) : Int) := by rw [w64 (by omega) (by omega)]; omega
      have S3 := Aside0.mk s3
      generalize hxx : ((i : Nat) : Int) = x at *
      generalize hyy : ((8 + i : Nat) : Int) = y at *
      have HXX := Aside0.mk hxx
      have q2' : decide (x < 8) = true := decide_eq_true q2
      replace p1 := eq_true p1
      replace q1 := eq_true q1
      replace p3 := eq_true p3
      replace q3 := eq_true q3
      have HG := Aside0.mk hg
      have HXx := Aside0.mk hx
      have hblk := rdb_lt HR.out (by simp [numb_length])
      have n1 : (⟨w.heap.size + 1, 0, none⟩ : Addr) ≠ a.add x.toNat := wr_ne hblk _ _
      have n2 : (⟨w.heap.size + 1, 0, none⟩ : Addr) ≠ a.add y.toNat := wr_ne hblk _ _
      have n3 : (⟨w.heap.size + 1, 1, none⟩ : Addr) ≠ a.add x.toNat := wr_ne hblk _ _
      have n4 : (⟨w.heap.size + 1, 1, none⟩ : Addr) ≠ a.add y.toNat := wr_ne hblk _ _
      clear hg hX hY hr hxx hyy s3 q2 hx hlt hi8 hblk
      go_wp2_with fail
      go_region_with fail
      all_goals
        go_wp2_with fail
        go_roundw
        case rel =>
          rw [S3.out]
          first | (with_reducible exact wr_close HI.out HXx.out HG.out hB HX.out.1 HX.out.2) | (with_reducible exact wr_close2 HI.out HXx.out HG.out hB HX.out.1 HX.out.2)
        case measure =>
          rw [S3.out, ← HXX.out]
          have := HI.out
          simp [intOf]
          omega
    · obtain rfl : i = 8 := by omega
      have e : 64 - 8 * 8 = 0 := rfl
      rw [e, Nat.pow_zero, Nat.div_one, Nat.div_one] at hg
      generalize hX : IntKind.i64.wrap (H : Int) = X at hg ⊢
      generalize hY : ((L : Nat) : Int) = Y at hg ⊢
      have x0 : wr.cell? ⟨w.heap.size + 1, 0, none⟩ = some (.int .i64 X) := (blk_cell hg 0).trans rfl
      have x1 : wr.cell? ⟨w.heap.size + 1, 1, none⟩ = some (.int .u64 Y) := (blk_cell hg 1).trans rfl
      have x2 : wr.cell? ⟨w.heap.size, 0, none⟩ = some (.int .i64 0) := (blk_cell hx 0).trans rfl
      have x3 : wr.cell? ⟨w.heap.size, 1, none⟩ = some (.int .u64 0) := (blk_cell hx 1).trans rfl
      have z0 := blk_frozen hx 0
      have z1 := blk_frozen hx 1
      have HXY := Aside0.mk (And.intro hX hY)
      clear hX hY
      go_wp2_with fail
      have h2 := blk_put (blk_put hx 0 (.int .i64 X) rfl) 1 (.int .u64 Y) rfl
      refine bodyPost_ret (results_row_tmp rfl _ _ w.heap.size 32 #[.int .i64 X, .int .u64 Y] (0, 0) _ rfl h2 Try.underlying32 rfl (by kernel_rfl)) rfl ?_
      rw [HXY.out.1, HXY.out.2]
      exact ⟨rfl, (hB.setCell (p := ⟨w.heap.size, 0, none⟩) (Nat.le_refl _) _).setCell (p := ⟨w.heap.size, 1, none⟩) (Nat.le_refl _) _⟩
end Go.Proofs.Ythabkdbhjioalaa.Top
