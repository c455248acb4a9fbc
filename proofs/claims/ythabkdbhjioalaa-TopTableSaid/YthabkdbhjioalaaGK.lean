/-
  What is known is read back; conditions: those that each theorem states.
-/
import Derived.Test.YthabkdbhjioalaaGJ
import Derived.Test.YthabkdbhjioalaaGH
import Derived.Laws.CopyOwn
namespace Go.Proofs.Ythabkdbhjioalaa.Top
set_option linter.unusedSimpArgs false
set_option linter.unusedVariables false
open Go.RowKit Go.Proofs.YthabkdbhjioalaaW.PrintWords Go.Proofs.YthabkdbhjioalaaW.PrintLast Go.Proofs.YthabkdbhjioalaaW.PrintMore Go.Proofs.Ythabkdbhjioalaa.Plain Go.Proofs.Ythabkdbhjioalaa.Fns
theorem u64N_back (z : Int) (h : -9223372036854775808 ≤ z ∧ z < 9223372036854775808) : IntKind.i64.wrap ((u64N z : Nat) : Int) = z := by
  rw [IntKind.wrap_i64]; unfold u64N; omega
theorem aggB_parts (a : Ag) : ((aggB a).drop 1).take 8 = numb (u64N a.c) 8 ∧ ((aggB a).drop 9).take 16 = numb (u64N a.hi) 8 ++ numb (u64N a.lo) 8 ∧ ((aggB a).drop 25).take 8 = numb (u64N a.mn) 8 ∧ ((aggB a).drop 33).take 8 = numb (u64N a.mx) 8 := by
  simp [aggB, numb]
theorem aggB_rd {W : World} {a : Ag} {A : Addr} {c : Nat} (h : RdB W (some A) (aggB a)) (hc : 41 ≤ c) :
    RdB W (some (cutA A 1 c)) (numb (u64N a.c) 8) ∧ RdB W (some (cutA A 9 c)) (numb (u64N a.hi) 8 ++ numb (u64N a.lo) 8) ∧ RdB W (some (cutA A 25 c)) (numb (u64N a.mn) 8) ∧ RdB W (some (cutA A 33 c)) (numb (u64N a.mx) 8) ∧ W.cell? A = some (.int .u8 (if a.o then 1 else 0)) := by
  have hl : (aggB a).length ≤ c := by rw [aggB_len]; exact hc
  have hp := aggB_parts a
  refine ⟨?_, ?_, ?_, ?_, ?_⟩
  · have := rdb_take (cutA_rd (i := 1) h hl) 8; rwa [hp.1] at this
  · have := rdb_take (cutA_rd (i := 9) h hl) 16; rwa [hp.2.1] at this
  · have := rdb_take (cutA_rd (i := 25) h hl) 8; rwa [hp.2.2.1] at this
  · have := rdb_take (cutA_rd (i := 33) h hl) 8; rwa [hp.2.2.2] at this
  · exact rd_news h 0 _ (by simp [nums, aggB])
theorem drawn_cell {w w' : World} (h : Drawn0 w w') (p : Addr) : w'.cell? p = w.cell? p := by obtain ⟨n, rfl⟩ := h; rfl
theorem drawn_frozen {w w' : World} (h : Drawn0 w w') (p : Addr) : w'.frozen? p = w.frozen? p := by obtain ⟨n, rfl⟩ := h; rfl
theorem keepB {n : Nat} {w1 W : World} {A : Addr} {o : Int} (hc : ∀ W : World, Below n w1 W → W.cell? A = some (.int .u8 o)) (h : Below n w1 W) : Below n w1 W ∧ W.cell? A = some (.int .u8 o) := ⟨h, hc _ h⟩
theorem bdrew {n : Nat} {w1 W : World} (h : Below n w1 W) : Below n w1 W.drew := ⟨h.os, h.tape, h.output, h.size, h.block⟩
theorem bdrewN {n k : Nat} {w1 W : World} (h : Below n w1 W) : Below n w1 (W.drewN k) := pw_below_drewN h k
theorem balloc {w1 W : World} {o : Obj} (h : Below w1.heap.size w1 W) : Below w1.heap.size w1 (W.alloc o) := h.alloc h.size o
theorem bset {n b i : Nat} {w1 W : World} {v : Value} (h : Below n w1 W) (hb : n ≤ b) : Below n w1 (W.setCell ⟨b, i, none⟩ v) := h.setCell (p := ⟨b, i, none⟩) hb v
theorem end_at {K : Act → World → Prop} {Q : Exit → Act → World → Prop} {e : Exit} {a : Act} {W : World} (F : World → Prop) (h : F W) (k : ∀ W, F W → Exit.then K Q e a W) : Exit.then K Q e a W := k W h
set_option maxRecDepth 100000 in
set_option maxHeartbeats 4000000 in
theorem aread_c {w : World} {A : Addr} {c : Nat} {a : Ag} (hg : Gd a) (hr : RdB w (some A) (aggB a)) (hc : 41 ≤ c) :
    Calls Try.prog 59 #[.slice (some A) 41 c] w fun e w' => e = .returned (.tuple #[a.v, .int .i64 0]) ∧ Below w.heap.size w w' := by
  have HG := Aside0.mk hg
  obtain ⟨ac, ao, ah, al, an, ax⟩ := a
  have hE : ((u64N ac : Nat) : Int) = ac ∧ IntKind.i64.wrap ((u64N an : Nat) : Int) = an ∧ IntKind.i64.wrap ((u64N ax : Nat) : Int) = ax := ⟨by have := hg.ok.c; simp only at this; unfold u64N; omega, u64N_back _ hg.mn, u64N_back _ hg.mx⟩
  have hE2 : IntKind.i64.wrap ((u64N ah : Nat) : Int) = ah ∧ ((u64N al : Nat) : Int) = al := ⟨u64N_back _ hg.ok.hi, by have := hg.ok.lo; simp only at this; unfold u64N; omega⟩
  have HE := Aside0.mk hE
  have HE2 := Aside0.mk hE2
  clear hE hE2
  have q1 : ∀ W : World, (Instr.slice 23 (.slice (some A) 41 c) (some (.int .i64 1)) (some (.int .i64 9)) none).run Try.prog W = .ok (.slice (some (cutA A 1 c)) 8 (c - 1)) W := cut_lh A 41 c 1 9 1 9 rfl rfl (by omega) (by omega)
  have q2 : ∀ W : World, (Instr.slice 23 (.slice (some A) 41 c) (some (.int .i64 25)) (some (.int .i64 33)) none).run Try.prog W = .ok (.slice (some (cutA A 25 c)) 8 (c - 25)) W := cut_lh A 41 c 25 33 25 33 rfl rfl (by omega) (by omega)
  have q3 : ∀ W : World, (Instr.slice 23 (.slice (some A) 41 c) (some (.int .i64 33)) none none).run Try.prog W = .ok (.slice (some (cutA A 33 c)) 8 (c - 33)) W := cut_lo A 41 c 33 33 rfl (by omega)
  have q4 : ∀ W : World, (Instr.slice 23 (.slice (some A) 41 c) (some (.int .i64 9)) (some (.int .i64 25)) none).run Try.prog W = .ok (.slice (some (cutA A 9 c)) 16 (c - 9)) W := cut_lh A 41 c 9 25 9 25 rfl rfl (by omega) (by omega)
  have hn : ∀ W : World, RdB W (some A) (aggB ⟨ac, ao, ah, al, an, ax⟩) → Calls Try.prog 72 #[.slice (some (cutA A 1 c)) 8 (c - 1)] W (fun e w' => e = .returned (.int .u64 (u64N ac)) ∧ Drawn0 W w') ∧ Calls Try.prog 72 #[.slice (some (cutA A 25 c)) 8 (c - 25)] W (fun e w' => e = .returned (.int .u64 (u64N an)) ∧ Drawn0 W w') ∧ Calls Try.prog 72 #[.slice (some (cutA A 33 c)) 8 (c - 33)] W (fun e w' => e = .returned (.int .u64 (u64N ax)) ∧ Drawn0 W w') ∧ Calls Try.prog 73 #[.slice (some (cutA A 9 c)) 16 (c - 9)] W (fun e w' => e = .returned (.tuple #[.agg #[.int .i64 (IntKind.i64.wrap ((u64N ah : Nat) : Int)), .int .u64 (u64N al)], .int .i64 0]) ∧ Below W.heap.size W w') := fun W h => by
    have hp := aggB_rd h hc
    exact ⟨anum_c (u64N_lt _) hp.1 rfl (by omega), anum_c (u64N_lt _) hp.2.2.1 rfl (by omega), anum_c (u64N_lt _) hp.2.2.2.1 rfl (by omega), wread_c (u64N_lt _) (u64N_lt _) hp.2.1 (by omega)⟩
  have hcell : ∀ W : World, RdB W (some A) (aggB ⟨ac, ao, ah, al, an, ax⟩) → W.cell? A = some (.int .u8 (if ao then 1 else 0)) := fun W h => (aggB_rd h hc).2.2.2.2
  generalize aggB ⟨ac, ao, ah, al, an, ax⟩ = l at *
  have HN := Aside0.mk hn
  have HCELL := Aside0.mk hcell
  have HC := Aside0.mk hc
  have HR := Aside0.mk hr
  clear hn hg hc hcell
  unfold Ag.v
  go_enter Try.func59, Try.ntmps59
  go_wp2_with fail
  have hB1 := (Below.refl w.heap.size w).alloc (Nat.le_refl _) (.cells #[.int .u64 0, .bool false, .int .i64 0, .int .u64 0, .int .i64 0, .int .i64 0] 34)
  have hb1 := al_new (W := w) (o := .cells #[.int .u64 0, .bool false, .int .i64 0, .int .u64 0, .int .i64 0, .int .i64 0] 34) rfl
  generalize (w.alloc (.cells #[.int .u64 0, .bool false, .int .i64 0, .int .u64 0, .int .i64 0, .int .i64 0] 34)) = w1 at *
  have hr1 := hr.below hB1
  have hk0 := hr1.below (below_drew (Below.refl w1.heap.size w1))
  have HB1 := Aside0.mk hB1
  have HBX := Aside0.mk hb1
  obtain ⟨o, ho⟩ : ∃ o : Int, o = (if ao then 1 else 0) := ⟨_, rfl⟩
  have e1 : (o == 1) = ao := by rw [ho]; cases ao <;> rfl
  have e2 : decide (o = 1) = ao := by rw [ho]; cases ao <;> rfl
  rw [← ho] at HCELL
  have HO := Aside0.mk ho
  have HNB := Aside0.mk (fun (W : World) (h : Below w1.heap.size w1 W) => HN.out W (hr1.below h))
  have HCB := Aside0.mk (fun (W : World) (h : Below w1.heap.size w1 W) => HCELL.out W (hr1.below h))
  have hA : A.block < w1.heap.size := World.block_lt_of_cell? w1 A (HCB.out w1 (Below.refl _ _))
  have n2 : (⟨w1.heap.size, 2, none⟩ : Addr) ≠ A := fun h => by rw [← h] at hA; exact Nat.lt_irrefl _ hA
  have n3 : (⟨w1.heap.size, 3, none⟩ : Addr) ≠ A := fun h => by rw [← h] at hA; exact Nat.lt_irrefl _ hA
  have t1 : decide (1 < o) = false := decide_eq_false (by rw [ho]; cases ao <;> decide)
  clear hB1 hb1 hr hr1 ho hk0 hA
  have y0 : ∀ k : Nat, ((w1.drewN k).alloc (.cells #[.int .u64 0, .bool false, .int .i64 0, .int .u64 0, .int .i64 0, .int .i64 0] 34)).cell? ⟨w1.heap.size, 0, none⟩ = some (.int .u64 0) := fun k => (blk_cell (al_new (W := w1.drewN k) (o := (.cells #[.int .u64 0, .bool false, .int .i64 0, .int .u64 0, .int .i64 0, .int .i64 0] 34)) rfl) 0).trans rfl
  have y1 : ∀ k : Nat, ((w1.drewN k).alloc (.cells #[.int .u64 0, .bool false, .int .i64 0, .int .u64 0, .int .i64 0, .int .i64 0] 34)).cell? ⟨w1.heap.size, 1, none⟩ = some (.bool false) := fun k => (blk_cell (al_new (W := w1.drewN k) (o := (.cells #[.int .u64 0, .bool false, .int .i64 0, .int .u64 0, .int .i64 0, .int .i64 0] 34)) rfl) 1).trans rfl
  have y2 : ∀ k : Nat, ((w1.drewN k).alloc (.cells #[.int .u64 0, .bool false, .int .i64 0, .int .u64 0, .int .i64 0, .int .i64 0] 34)).cell? ⟨w1.heap.size, 2, none⟩ = some (.int .i64 0) := fun k => (blk_cell (al_new (W := w1.drewN k) (o := (.cells #[.int .u64 0, .bool false, .int .i64 0, .int .u64 0, .int .i64 0, .int .i64 0] 34)) rfl) 2).trans rfl
  have y3 : ∀ k : Nat, ((w1.drewN k).alloc (.cells #[.int .u64 0, .bool false, .int .i64 0, .int .u64 0, .int .i64 0, .int .i64 0] 34)).cell? ⟨w1.heap.size, 3, none⟩ = some (.int .u64 0) := fun k => (blk_cell (al_new (W := w1.drewN k) (o := (.cells #[.int .u64 0, .bool false, .int .i64 0, .int .u64 0, .int .i64 0, .int .i64 0] 34)) rfl) 3).trans rfl
  have y4 : ∀ k : Nat, ((w1.drewN k).alloc (.cells #[.int .u64 0, .bool false, .int .i64 0, .int .u64 0, .int .i64 0, .int .i64 0] 34)).cell? ⟨w1.heap.size, 4, none⟩ = some (.int .i64 0) := fun k => (blk_cell (al_new (W := w1.drewN k) (o := (.cells #[.int .u64 0, .bool false, .int .i64 0, .int .u64 0, .int .i64 0, .int .i64 0] 34)) rfl) 4).trans rfl
  have y5 : ∀ k : Nat, ((w1.drewN k).alloc (.cells #[.int .u64 0, .bool false, .int .i64 0, .int .u64 0, .int .i64 0, .int .i64 0] 34)).cell? ⟨w1.heap.size, 5, none⟩ = some (.int .i64 0) := fun k => (blk_cell (al_new (W := w1.drewN k) (o := (.cells #[.int .u64 0, .bool false, .int .i64 0, .int .u64 0, .int .i64 0, .int .i64 0] 34)) rfl) 5).trans rfl
  have yf : ∀ k i : Nat, ((w1.drewN k).alloc (.cells #[.int .u64 0, .bool false, .int .i64 0, .int .u64 0, .int .i64 0, .int .i64 0] 34)).frozen? ⟨w1.heap.size, i, none⟩ = false := fun k i => blk_frozen (al_new (W := w1.drewN k) (o := (.cells #[.int .u64 0, .bool false, .int .i64 0, .int .u64 0, .int .i64 0, .int .i64 0] 34)) rfl) i
  go_region_held3 (fun w' => Below w1.heap.size w1 w' ∧ w'.cell? A = some (.int .u8 o)) (exact keepB HCB.out (by (repeat' (first | with_reducible exact Below.refl _ _ | with_reducible assumption | with_reducible apply bdrew | with_reducible apply bdrewN | with_reducible apply balloc | with_reducible refine bset ?_ (Nat.le_refl _))))) (first
    | (go_at_call 72
       first
       | (with_reducible refine ((HNB.out _ (by (repeat' (first | with_reducible exact Below.refl _ _ | with_reducible assumption | with_reducible apply bdrew | with_reducible apply bdrewN | with_reducible apply balloc | with_reducible refine bset ?_ (Nat.le_refl _))))).1).mono ?_
          rintro e _ ⟨rfl, nd1, rfl⟩)
       | (with_reducible refine ((HNB.out _ (by (repeat' (first | with_reducible exact Below.refl _ _ | with_reducible assumption | with_reducible apply bdrew | with_reducible apply bdrewN | with_reducible apply balloc | with_reducible refine bset ?_ (Nat.le_refl _))))).2.1).mono ?_
          rintro e _ ⟨rfl, nd2, rfl⟩)
       | (with_reducible refine ((HNB.out _ (by (repeat' (first | with_reducible exact Below.refl _ _ | with_reducible assumption | with_reducible apply bdrew | with_reducible apply bdrewN | with_reducible apply balloc | with_reducible refine bset ?_ (Nat.le_refl _))))).2.2.1).mono ?_
          rintro e _ ⟨rfl, nd3, rfl⟩)))
  all_goals
    refine end_at (fun W => W.heap[w1.heap.size]? = some (.cells #[.int .u64 ac, .bool ao, .int .i64 0, .int .u64 0, .int .i64 an, .int .i64 ax] 34 (0, 0)) ∧ Below w1.heap.size w1 W) ⟨?_, by (repeat' (first | with_reducible exact Below.refl _ _ | with_reducible assumption | with_reducible apply bdrew | with_reducible apply bdrewN | with_reducible apply balloc | with_reducible refine bset ?_ (Nat.le_refl _)))⟩ ?_
    · rw [HE.out.1, HE.out.2.1, HE.out.2.2]
      exact blk_six (al_new rfl) _ _ _ _ _ _
    clear y0 y1 y2 y3 y4 y5 yf
    rintro W ⟨hW, hWB⟩
    have hwr := (HNB.out W hWB).2.2.2
    rw [HE2.out.1, HE2.out.2] at hwr
    go_wp2_with fail
    refine hwr.mono ?_
    rintro e w5 ⟨rfl, hb5⟩
    have h5 := (hb5.block _ (blk_lt hW)).trans hW
    have hB5 : Below w1.heap.size w1 w5 := hWB.trans (hb5.mono hWB.size)
    have hcA := HCB.out _ hB5
    have y0 : w5.cell? ⟨w1.heap.size, 0, none⟩ = some (.int .u64 ac) := (blk_cell h5 0).trans rfl
    have y1 : w5.cell? ⟨w1.heap.size, 1, none⟩ = some (.bool ao) := (blk_cell h5 1).trans rfl
    have y2 : w5.cell? ⟨w1.heap.size, 2, none⟩ = some (.int .i64 0) := (blk_cell h5 2).trans rfl
    have y3 : w5.cell? ⟨w1.heap.size, 3, none⟩ = some (.int .u64 0) := (blk_cell h5 3).trans rfl
    have y4 : w5.cell? ⟨w1.heap.size, 4, none⟩ = some (.int .i64 an) := (blk_cell h5 4).trans rfl
    have y5 : w5.cell? ⟨w1.heap.size, 5, none⟩ = some (.int .i64 ax) := (blk_cell h5 5).trans rfl
    have f2 := blk_frozen h5 2
    have f3 := blk_frozen h5 3
    have hrt := right_gd (w := (w5.setCell ⟨w1.heap.size, 2, none⟩ (.int .i64 ah)).setCell ⟨w1.heap.size, 3, none⟩ (.int .u64 al)) HG.out
    unfold Ag.v at hrt
    clear hwr hb5 hW
    go_wp2_with fail
    refine hrt.mono ?_
    rintro e w7 ⟨rfl, hb7⟩
    have h7 := (hb7.block w1.heap.size (blk_lt (blk_put (blk_put h5 2 (.int .i64 ah) rfl) 3 (.int .u64 al) rfl))).trans (blk_put (blk_put h5 2 (.int .i64 ah) rfl) 3 (.int .u64 al) rfl)
    have hB6 : Below w1.heap.size w1 ((w5.setCell ⟨w1.heap.size, 2, none⟩ (.int .i64 ah)).setCell ⟨w1.heap.size, 3, none⟩ (.int .u64 al)) := bset (bset hB5 (Nat.le_refl _)) (Nat.le_refl _)
    have hB7 : Below w1.heap.size w1 w7 := hB6.trans (hb7.mono hB6.size)
    have h9 := (hB7.block _ (blk_lt HBX.out)).trans HBX.out
    clear y0 y1 y2 y3 y4 y5 f2 f3 hcA n2 n3 hrt hb7 h5 hB5 hB6
    have y0 : w7.cell? ⟨w1.heap.size, 0, none⟩ = some (.int .u64 ac) := (blk_cell h7 0).trans rfl
    have y1 : w7.cell? ⟨w1.heap.size, 1, none⟩ = some (.bool ao) := (blk_cell h7 1).trans rfl
    have y2 : w7.cell? ⟨w1.heap.size, 2, none⟩ = some (.int .i64 ah) := (blk_cell h7 2).trans rfl
    have y3 : w7.cell? ⟨w1.heap.size, 3, none⟩ = some (.int .u64 al) := (blk_cell h7 3).trans rfl
    have y4 : w7.cell? ⟨w1.heap.size, 4, none⟩ = some (.int .i64 an) := (blk_cell h7 4).trans rfl
    have y5 : w7.cell? ⟨w1.heap.size, 5, none⟩ = some (.int .i64 ax) := (blk_cell h7 5).trans rfl
    have z0 : w7.cell? ⟨w.heap.size, 0, none⟩ = some (.int .u64 0) := (blk_cell h9 0).trans rfl
    have z1 : w7.cell? ⟨w.heap.size, 1, none⟩ = some (.bool false) := (blk_cell h9 1).trans rfl
    have z2 : w7.cell? ⟨w.heap.size, 2, none⟩ = some (.int .i64 0) := (blk_cell h9 2).trans rfl
    have z3 : w7.cell? ⟨w.heap.size, 3, none⟩ = some (.int .u64 0) := (blk_cell h9 3).trans rfl
    have z4 : w7.cell? ⟨w.heap.size, 4, none⟩ = some (.int .i64 0) := (blk_cell h9 4).trans rfl
    have z5 : w7.cell? ⟨w.heap.size, 5, none⟩ = some (.int .i64 0) := (blk_cell h9 5).trans rfl
    have g0 := blk_frozen h9 0
    have g1 := blk_frozen h9 1
    have g2 := blk_frozen h9 2
    have g3 := blk_frozen h9 3
    have g4 := blk_frozen h9 4
    have g5 := blk_frozen h9 5
    go_wp2_with fail
    refine bodyPost_ret (results_row_tmp rfl _ _ w.heap.size 34 #[.int .u64 ac, .bool ao, .int .i64 ah, .int .u64 al, .int .i64 an, .int .i64 ax] (0, 0) _ rfl (blk_six h9 _ _ _ _ _ _) Try.underlying34 rfl (by kernel_rfl)) rfl ?_
    exact ⟨rfl, below_six (HB1.out.trans (hB7.mono HB1.out.size)) (Nat.le_refl _) _ _ _ _ _ _⟩
/-- A block of bytes is an own row. -/
theorem blk_own {w : World} {B g : Nat} {l : List Int} (h : w.heap[g]? = some (.cells (nums .u8 l).toArray 5 (0, 0))) (hB : B ≤ g) (hl : l.length ≤ 100000000) : w.ownsRow B 5 1 (.slice (some ⟨g, 0, none⟩) l.length l.length) l.length (nums .u8 l) :=
  ⟨by simp [nums], .inr ⟨g, l.length, _, rfl, hB, h, Nat.le_refl _, by simp only [maxLen]; omega, by simp [nums], by simp [nums, List.take_of_length_le]⟩⟩
theorem blk_rdb {w : World} {g : Nat} {l : List Int} (h : w.heap[g]? = some (.cells (nums .u8 l).toArray 5 (0, 0))) (hl : l.length ≤ 100000000) : RdB w (some ⟨g, 0, none⟩) l := own_read (blk_own h (Nat.zero_le _) hl)
theorem FlAt.cells {w : World} {base F g hs : Nat} {bl : List Int} (h : FlAt w base F g hs bl) : w.cell? ⟨F, 0, none⟩ = some (.slice (some ⟨g, 0, none⟩) bl.length bl.length) ∧ w.cell? ⟨F, 1, none⟩ = some (.int .i64 hs) :=
  ⟨(blk_cell h.fb 0).trans rfl, (blk_cell h.fb 1).trans rfl⟩
set_option maxRecDepth 100000 in
set_option maxHeartbeats 1000000 in
theorem bwrite_c {w : World} {base F g hs : Nat} {bl : List Int} (hfl : FlAt w base F g hs bl) (hh1 : 1 ≤ hs) (hh2 : hs ≤ 8) (hl : bl.length ≤ 8192) :
    Calls Try.prog 35 #[.pointer (some ⟨F, 0, none⟩)] w fun e w' => ∃ v, e = .returned (.tuple #[v, .int .i64 0]) ∧ w'.ownsRow w.heap.size 5 1 v (((hs : Nat) : Int) :: bl).length (nums .u8 (((hs : Nat) : Int) :: bl)) ∧ Below w.heap.size w w' := by
  obtain ⟨x0, x1⟩ := hfl.cells
  have hF := blk_lt hfl.fb
  have hG := blk_lt hfl.gb
  have hm := made_c hfl (by omega)
  have e8 : (hs : Int) % 256 = (hs : Int) := by omega
  have e9 : IntKind.u8.wrap (hs : Int) = (hs : Int) := by rw [IntKind.wrap_u8, e8]
  obtain ⟨w1, hw1⟩ : ∃ w1, (w.alloc (.cells #[.int .u8 (IntKind.u8.wrap (hs : Int))] 5)).drew = w1 := ⟨_, rfl⟩
  have hB1 : Below w.heap.size w w1 := by rw [← hw1]; exact below_drew ((Below.refl w.heap.size w).alloc (Nat.le_refl _) _)
  have hs1 : w1.heap.size = w.heap.size + 1 := by rw [← hw1]; exact World.size_alloc _ _
  have hn1 : w1.heap[w.heap.size]? = some (.cells (nums .u8 [(hs : Int)]).toArray 5 (0, 0)) := by rw [← hw1, e9]; exact al_new rfl
  have ho := blk_own hn1 (Nat.le_refl _) (by simp)
  have hrd := blk_rdb (hfl.below hB1).gb (by omega)
  have hfl1 := hfl.below hB1
  have HF := Aside0.mk hfl1
  have HB := Aside0.mk hB1
  have HO := Aside0.mk ho
  have HR := Aside0.mk hrd
  have HW := Aside0.mk hw1
  clear hfl hfl1 hn1 ho hrd hw1 hB1 e9
  go_enter Try.func35, Try.ntmps35
  go_wp2_with (first | (refine hm.mono ?_; rintro e w2 ⟨rfl, rfl⟩) | fail)
  clear hm
  go_region_held3 (fun w' => w'.cell? ⟨F, 0, none⟩ = some (.slice (some ⟨g, 0, none⟩) bl.length bl.length) ∧ w'.cell? ⟨F, 1, none⟩ = some (.int .i64 hs))
    (first | (with_reducible exact FlAt.cells (by assumption)) | go_keep) (first
    | (rw [HW.out]
       refine step_append_bytes rfl _ _ (by rfl) (by rfl) (by rfl) HO.out HR.out (fun h => by cases h) (by simp; omega) (by omega) ?_
       intro v2 w3 ho2 hg2 hat2
       have hfl3 := FlAt.move HF.out (hg2.block _ (by omega) (by simp [Value.ownBlock]; omega)) (hg2.block _ (by omega) (by simp [Value.ownBlock]; omega))))
  go_wp2
  go_ret2
  exact ⟨v2, rfl, ho2, HB.out.grown hg2 (by omega) (fun k hk => by simp [Value.ownBlock] at hk; omega)⟩
set_option maxRecDepth 100000 in
set_option maxHeartbeats 1000000 in
theorem bread_c {w : World} {A : Addr} {n c hs : Nat} {bl : List Int} (hr : RdB w (some A) (((hs : Nat) : Int) :: bl)) (hn : n = bl.length + 1) (hc : n ≤ c) (hh1 : 1 ≤ hs) (hh2 : hs ≤ 8) (hl1 : 1 ≤ bl.length) (hl2 : bl.length ≤ 8192) :
    Calls Try.prog 39 #[.slice (some A) n c] w fun e w' => ∃ F g, e = .returned (.tuple #[.pointer (some ⟨F, 0, none⟩), .int .i64 0]) ∧ FlAt w' w.heap.size F g hs bl ∧ Below w.heap.size w w' := by
  have x0 : w.cell? A = some (.int .u8 hs) := rd_news hr 0 _ (by simp [nums])
  have t1 : decide ((n : Int) < 2) = false := decide_eq_false (by omega)
  have t2 : decide ((8193 : Int) < (n : Int)) = false := decide_eq_false (by omega)
  have t3 : decide ((hs : Int) < 1) = false := decide_eq_false (by omega)
  have t4 : decide ((8 : Int) < (hs : Int)) = false := decide_eq_false (by omega)
  have t5 : (0 : Int) < (n : Int) := by omega
  have e1 : (n : Int) - 1 = (bl.length : Int) := by omega
  have hmk := print_make (P := Try.prog) 23 5 .u8 1 Try.underlying23 info5 (by omega) bl.length (by omega)
  have hl : madeCells #[Value.int .u8 0] bl.length = (nums .u8 (List.replicate bl.length 0)).toArray := by
    apply Array.ext
    · simp [nums, madeCells]
    · intro i h1 h2
      simp [nums, madeCells, Nat.mod_one]
  rw [hl] at hmk
  have q1 : ∀ W : World, (Instr.slice 23 (.slice (some A) n c) (some (.int .i64 1)) none none).run Try.prog W = .ok (.slice (some (cutA A 1 c)) (n - 1) (c - 1)) W := cut_lo A n c 1 1 rfl (by omega)
  have hcut : ∀ W : World, Below w.heap.size w W → RdB W (some (cutA A 1 c)) bl := fun W hb => by
    have := cutA_rd (i := 1) (hr.below hb) (c := c) (by simp; omega)
    simpa using this
  have HCUT := Aside0.mk hcut
  have HR := Aside0.mk hr
  have HL := Aside0.mk hl1
  have HN := Aside0.mk hn
  clear hl hr hcut hn
  obtain ⟨w1, hw1⟩ : ∃ w1, w.alloc (.cells (nums .u8 (List.replicate bl.length 0)).toArray 5) = w1 := ⟨_, rfl⟩
  have hB1 : Below w.heap.size w w1 := by rw [← hw1]; exact (Below.refl w.heap.size w).alloc (Nat.le_refl _) _
  have hg1 : w1.heap[w.heap.size]? = some (.cells (nums .u8 (List.replicate bl.length 0)).toArray 5 (0, 0)) := by rw [← hw1]; exact al_new rfl
  have HW := Aside0.mk hw1
  clear hw1
  go_enter Try.func39, Try.ntmps39
  go_wp2_with (rw [HW.out]; refine wpList_copy_splice rfl _ _ 23 23 rfl 5 Try.underlying23 (by kernel_rfl) _ _ _ _ _ _ rfl rfl w.heap.size 0 (nums .u8 (List.replicate bl.length 0)) 5 hg1 (nums .u8 bl) (by rw [show n - 1 = bl.length from by have := HN.out; omega]; simp only [nums, List.length_map]; exact (Nat.min_self _).symm) (fun _ => ⟨rfl, _, rfl, fun j v hj => rd_news (HCUT.out _ hB1) j v hj⟩) (by simp [nums]) (fun u hu => by simp [nums] at hu; obtain ⟨x, _, rfl⟩ := hu; rfl) w.heap.size w hB1 (Nat.le_refl _) ?_; intro w2 hg2 hb2; have x2 : w2.cell? A = some (.int .u8 hs) := rd_news (HR.out.below hb2) 0 _ (by simp [nums]))
  go_ret2
  have h2 : w2.heap[w.heap.size]? = some (.cells (nums .u8 bl).toArray 5 (0, 0)) := by
    have := hg2.out
    rw [show splice (nums .u8 (List.replicate bl.length 0)) 0 (nums .u8 bl) = nums .u8 bl by simp [splice, nums]] at this
    exact this
  have hs2 := hb2.size
  refine ⟨_, w.heap.size, rfl, ⟨al_new rfl, al_old h2 _, by omega, Nat.le_refl _⟩, hb2.alloc hs2 _⟩
/-- A pair: where its key and its value lie, and what they are. -/
structure Pr where
  A : Addr
  k : List Int
  c : Nat
  B : Addr
  v : List Int
  d : Nat
def Pr.cells (p : Pr) : List Value := [.slice (some p.A) p.k.length p.c, .slice (some p.B) p.v.length p.d]
def Pr.val (p : Pr) : Value := .agg #[.slice (some p.A) p.k.length p.c, .slice (some p.B) p.v.length p.d]
/-- A pair that can be read. -/
structure Pr.rd (W : World) (p : Pr) : Prop where
  k : RdB W (some p.A) p.k
  kc : p.k.length ≤ p.c
  v : RdB W (some p.B) p.v
  vc : p.v.length ≤ p.d
theorem Pr.rd.below {W W1 : World} {p : Pr} (h : p.rd W) (hb : Below W.heap.size W W1) : p.rd W1 := ⟨h.k.below hb, h.kc, h.v.below hb, h.vc⟩
/-- A row of pairs that can be read. -/
structure PRow (W : World) (R : Option Addr) (ps : List Pr) : Prop where
  at_ : ∀ j (h : j < ps.length), ∃ b, R = some ⟨b, 0, none⟩ ∧ W.cell? ⟨b, j * 2, none⟩ = some (.slice (some ps[j].A) ps[j].k.length ps[j].c) ∧ W.cell? ⟨b, j * 2 + 1, none⟩ = some (.slice (some ps[j].B) ps[j].v.length ps[j].d)
  rd : ∀ p ∈ ps, p.rd W
theorem cell_below {W W1 : World} {a : Addr} {u : Value} (hb : Below W.heap.size W W1) (h : W.cell? a = some u) : W1.cell? a = some u := by
  have := World.block_lt_of_cell? W a h
  rw [← h]
  unfold World.cell?
  rw [hb.block _ this]
theorem PRow.below {W W1 : World} {R : Option Addr} {ps : List Pr} (h : PRow W R ps) (hb : Below W.heap.size W W1) : PRow W1 R ps :=
  ⟨fun j hj => by obtain ⟨b, e, h0, h1⟩ := h.at_ j hj; exact ⟨b, e, cell_below hb h0, cell_below hb h1⟩, fun p hp => (h.rd p hp).below hb⟩
theorem bright1_c {w : World} {A B : Option Addr} {n c m d : Nat} (h1 : n ≤ 4096) (h2 : m ≤ 4096) : Calls Try.prog 68 #[.agg #[.slice A n c, .slice B m d]] w fun e w' => e = .returned (.bool false) ∧ Below w.heap.size w w' := by
  have t1 : decide ((4096 : Int) < (n : Int)) = false := decide_eq_false (by omega)
  have t2 : decide ((4096 : Int) < (m : Int)) = false := decide_eq_false (by omega)
  go_enter Try.func68, Try.ntmps68
  go_wp2
  go_ret
  exact ⟨rfl, (Below.refl _ _).alloc (Nat.le_refl _) _⟩
set_option maxRecDepth 100000 in
theorem bindex_c {w : World} {R : Option Addr} {c : Nat} {ps : List Pr} (h : PRow w R ps) (hl : ∀ p ∈ ps, p.k.length ≤ 4096 ∧ p.v.length ≤ 4096) (hn : ps.length ≤ 4096) :
    Calls Try.prog 77 #[.slice R ps.length c, .func (.func 68) #[] #[]] w fun e w' => e = .returned (.int .i64 (-1)) ∧ Below w.heap.size w w' := by
  have H := Aside0.mk h
  have HL := Aside0.mk hl
  clear h hl
  go_enter Try.func77, Try.ntmps77
  go_wp2_with fail
  go_loopw [8] (fun i wr => ∃ j : Nat, j ≤ ps.length ∧ i = .int .i64 j ∧ Below w.heap.size w wr) (fun i _ => ps.length - (intOf i).toNat)
  case atStart => exact ⟨0, by omega, rfl, Below.refl _ _⟩
  case round =>
    obtain ⟨j, hj, rfl, hB⟩ := hrel
    by_cases hlt : j < ps.length
    · have t1 : decide (j < ps.length) = true := decide_eq_true hlt
      obtain ⟨b, rfl, x0, x1⟩ := (H.out.below hB).at_ j hlt
      obtain ⟨l1, l2⟩ := HL.out ps[j] (List.getElem_mem hlt)
      have hr := bright1_c (w := wr) (A := some ps[j].A) (B := some ps[j].B) (c := ps[j].c) (d := ps[j].d) l1 l2
      have hs := hB.size
      go_wp2_with (first | (refine hr.mono ?_; rintro e w2 ⟨rfl, hb2⟩) | fail)
      go_roundw
      case rel => exact ⟨j + 1, by omega, by go_num, hB.trans (hb2.mono hs)⟩
      case measure => simp [intOf]; omega
    · obtain rfl : j = ps.length := by omega
      have t1 : decide (ps.length < ps.length) = false := decide_eq_false hlt
      go_wp2_with fail
      go_ret
      exact ⟨rfl, hB⟩
theorem bcont_c {w : World} {R : Option Addr} {c : Nat} {ps : List Pr} (h : PRow w R ps) (hl : ∀ p ∈ ps, p.k.length ≤ 4096 ∧ p.v.length ≤ 4096) (hn : ps.length ≤ 4096) :
    Calls Try.prog 67 #[.slice R ps.length c, .func (.func 68) #[] #[]] w fun e w' => e = .returned (.bool false) ∧ Below w.heap.size w w' := by
  have hi := bindex_c (c := c) h hl hn
  clear h hl
  go_enter Try.func67, Try.ntmps67
  go_wp2_with (first | (refine hi.mono ?_; rintro e w2 ⟨rfl, hb⟩) | fail)
  go_ret
  exact ⟨rfl, hb⟩
/-- The keys are bytes, and stand in order, each once. -/
def Srt (ks : List (List Int)) : Prop := (∀ k ∈ ks, Byt k) ∧ ks.Pairwise (fun a b => lts a b = true)
set_option maxRecDepth 100000 in
theorem bright_c {w : World} {R : Option Addr} {c : Nat} {ps : List Pr} (h : PRow w R ps) (hl : ∀ p ∈ ps, p.k.length ≤ 4096 ∧ p.v.length ≤ 4096) (hn : ps.length ≤ 4096) (hs : Srt (ps.map Pr.k)) :
    Calls Try.prog 54 #[.slice R ps.length c] w fun e w' => e = .returned (.int .i64 0) ∧ Below w.heap.size w w' := by
  have hi := bcont_c (c := c) h hl hn
  have H := Aside0.mk h
  have HS := Aside0.mk hs
  have t1 : decide ((4096 : Int) < (ps.length : Int)) = false := decide_eq_false (by omega)
  clear h hl hs
  go_enter Try.func54, Try.ntmps54
  go_wp2_with (first | (refine hi.mono ?_; rintro e w2 ⟨rfl, hb⟩) | fail)
  clear hi t1
  go_loopw [3] (fun i wr => ∃ j : Nat, (j = 0 ∨ j + 1 ≤ ps.length) ∧ i = .int .i64 ((j : Int) + 1) ∧ Below w.heap.size w wr) (fun i _ => ps.length + 1 - (intOf i).toNat)
  case atStart => exact ⟨0, by omega, rfl, hb⟩
  case round =>
    obtain ⟨j, hj, rfl, hB⟩ := hrel
    by_cases hlt : j + 1 < ps.length
    · have t1 : decide ((j : Int) + 1 < (ps.length : Int)) = true := decide_eq_true (by omega)
      have hlt0 : j < ps.length := by omega
      obtain ⟨b, rfl, x0, x1⟩ := (H.out.below hB).at_ j hlt0
      obtain ⟨b', hbb, x2, x3⟩ := (H.out.below hB).at_ (j + 1) hlt
      obtain rfl : b = b' := by simpa using hbb
      have hr0 := ((H.out.below hB).rd _ (List.getElem_mem hlt0))
      have hr1 := ((H.out.below hB).rd _ (List.getElem_mem hlt))
      have hlts : lts ps[j].k ps[j + 1].k = true := by
        have := (List.pairwise_iff_getElem.1 HS.out.2) j (j + 1) (by simpa using hlt0) (by simpa using hlt) (by omega)
        simpa using this
      have hby0 : Byt ps[j].k := HS.out.1 _ (List.mem_map.2 ⟨_, List.getElem_mem hlt0, rfl⟩)
      have hby1 : Byt ps[j + 1].k := HS.out.1 _ (List.mem_map.2 ⟨_, List.getElem_mem hlt, rfl⟩)
      have t2 : decide (0 ≤ cmpB ps[j].k ps[j + 1].k) = false := decide_eq_false (by have := (cmpB_lts hby0 hby1).2 hlts; omega)
      have hc := compare_c (w := wr.drew) (c := ps[j].c) (d := ps[j + 1].c) (hr0.k.below (below_drew (Below.refl _ _))) (hr1.k.below (below_drew (Below.refl _ _)))
      clear x1 x3 hr0 hr1 hlts hby0 hby1 hbb
      go_wp2_with fail
      have s1 : IntKind.i64.wrap ((j : Int) + 1 - 1) = (j : Int) := by rw [IntKind.wrap_i64]; omega
      have s2 : wrap64 ((j : Int) + 1 - 1) = (j : Int) := by unfold wrap64; omega
      have s3 : IntKind.i64.wrap (j : Int) = (j : Int) := by rw [IntKind.wrap_i64]; omega
      have s4 : wrap64 (j : Int) = (j : Int) := by unfold wrap64; omega
      have b0 : (0 : Int) ≤ (j : Int) := by omega
      have b1 : (j : Int) < (ps.length : Int) := by omega
      have b2 : (0 : Int) ≤ (j : Int) + 1 := by omega
      have b3 : (j : Int) + 1 < (ps.length : Int) := by omega
      have b4 : ((j : Int) + 1).toNat = j + 1 := by omega
      go_region_held3 (fun w' => w' = wr.drew) (rfl) (first | (go_at_call 44; refine hc.mono ?_; rintro e w3 ⟨rfl, rfl⟩))
      clear s1 s2 s3 s4 b0 b1 b2 b3 b4 x0 x2 hc
      go_wp2_with fail
      go_roundw
      case rel => exact ⟨j + 1, by omega, by go_num, hB.trans (below_drew (Below.refl _ _) |>.mono hB.size)⟩
      case measure => simp [intOf]; omega
    · have t1 : decide ((j : Int) + 1 < (ps.length : Int)) = false := decide_eq_false (by omega)
      go_wp2_with fail
      go_ret
      exact ⟨rfl, hB⟩
end Go.Proofs.Ythabkdbhjioalaa.Top
