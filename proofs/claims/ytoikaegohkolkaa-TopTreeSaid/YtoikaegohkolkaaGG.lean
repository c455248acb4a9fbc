/-
  grain: which rules are right, where a bucket begins, how far the ladder goes, what is expired; conditions: those that each theorem states.
-/
import Derived.Test.YtoikaegohkolkaaYBase
import Derived.Test.YtoikaegohkolkaaGC
import Derived.Test.YtoikaegohkolkaaKLaws
namespace Go.Proofs.Ytoikaegohkolkaa.Top
set_option linter.unusedSimpArgs false
set_option linter.unusedVariables false
open Go.RowKit Go.Proofs.YtoikaegohkolkaaW.PrintWords Go.Proofs.YtoikaegohkolkaaW.PrintLast Go.Proofs.YtoikaegohkolkaaW.PrintMore
/-- A ladder in memory. -/
def GRow (W : World) (b o : Nat) (gs : Gr) : Prop := ∀ j (hj : j < gs.length), W.cell? ⟨b, o + j * 2, none⟩ = some (.int .i64 gs[j].1) ∧ W.cell? ⟨b, o + j * 2 + 1, none⟩ = some (.int .i64 gs[j].2)
theorem GRow.below {W W1 : World} {b o : Nat} {gs : Gr} (h : GRow W b o gs) (hb : Below W.heap.size W W1) : GRow W1 b o gs := fun j hj => ⟨cell_below hb (h j hj).1, cell_below hb (h j hj).2⟩
theorem szG_at {gs : Gr} {j : Nat} (hj : j < gs.length) : szG gs j = gs[j].1 := by unfold szG; rw [List.getD_eq_getElem?_getD, List.getElem?_eq_getElem hj]; rfl
theorem agG_at {gs : Gr} {j : Nat} (hj : j < gs.length) : agG gs j = gs[j].2 := by unfold agG; rw [List.getD_eq_getElem?_getD, List.getElem?_eq_getElem hj]; rfl
/-- Rules, as a value. -/
def rulV (R : Option Addr) (n c : Nat) (keep : Int) : Value := .agg #[.slice R n c, .int .i64 keep]
theorem istime_c {w : World} (t : Int) : Calls Try.prog 75 #[.int .i64 t] w fun e w' => e = .returned (.bool (decide (0 ≤ t) && decide (t ≤ 1099511627776))) ∧ w' = w := by
  by_cases h : 0 ≤ t
  · have h1 : decide (0 ≤ t) = true := decide_eq_true h
    go_enter Try.func75, Try.ntmps75
    go_wp2_with fail
    go_ret
    exact ⟨by simp [h], rfl⟩
  · have h1 : decide (0 ≤ t) = false := decide_eq_false h
    go_enter Try.func75, Try.ntmps75
    go_wp2_with fail
    go_ret
    exact ⟨by simp [h], rfl⟩
theorem tmod_pos {t s : Int} (ht : 0 ≤ t) : Int.tmod t s = t % s := Int.tmod_eq_emod_of_nonneg ht
theorem flo_wrap {t s : Int} (ht : 0 ≤ t ∧ t ≤ 1099511627776) (hs : 1 ≤ s ∧ s ≤ 1099511627776) : wrap64 (t - t % s) = flo t s ∧ wrap64 (flo t s + s) = flo t s + s := by
  have h1 := flo_nonneg hs.1 ht.1
  have h2 := flo_le (t := t) hs.1
  have e : t - t % s = flo t s := rfl
  rw [e]
  generalize flo t s = f at *
  unfold wrap64
  omega
theorem end_c {w : World} {t s : Int} (ht : 0 ≤ t ∧ t ≤ 1099511627776) (hs : 1 ≤ s ∧ s ≤ 1099511627776) : Calls Try.prog 74 #[.int .i64 t, .int .i64 s] w fun e w' => e = .returned (.int .i64 (flo t s + s)) ∧ w' = w := by
  have e := flo_wrap ht hs
  go_enter Try.func74, Try.ntmps74
  go_wp2_with fail
  go_ret
  refine ⟨?_, rfl⟩
  first | rfl | (rw [e.1, e.2]; rfl) | simp [e.1, e.2]
theorem floor_c {w : World} {t s : Int} (ht : 0 ≤ t ∧ t ≤ 1099511627776) (hs : 1 ≤ s ∧ s ≤ 1099511627776) : Calls Try.prog 45 #[.int .i64 t, .int .i64 s] w fun e w' => e = .returned (.tuple #[.int .i64 (flo t s), .int .i64 0]) ∧ w' = w := by
  have e := flo_wrap ht hs
  have t1 : decide (0 ≤ t) = true := decide_eq_true ht.1
  have t2 : decide (t ≤ 1099511627776) = true := decide_eq_true ht.2
  have t3 : decide (s < 1) = false := decide_eq_false (by omega)
  have t4 : decide (1099511627776 < s) = false := decide_eq_false (by omega)
  go_enter Try.func45, Try.ntmps45
  go_wp2_with (first | (go_at_call 75; refine (istime_c t).mono ?_; rintro e w2 ⟨rfl, rfl⟩; rw [t1, t2]) | fail)
  go_ret2
  refine ⟨?_, rfl⟩
  first | rfl | (rw [e.1]; rfl) | simp [e.1]
/-- Rules' box and their row. -/
structure RuI (w : World) (R : Option Addr) (b o c : Nat) (gs : Gr) (keep : Int) (W : World) : Prop where
  be : Below w.heap.size w W
  bx : W.heap[w.heap.size]? = some (.cells #[.slice R gs.length c, .int .i64 keep] 24 (0, 0))
  row : GRow W b o gs
theorem RuI.below {w W W1 : World} {R : Option Addr} {b o c : Nat} {gs : Gr} {keep : Int} (h : RuI w R b o c gs keep W) (hb : Below W.heap.size W W1) : RuI w R b o c gs keep W1 := ⟨h.be.trans (hb.mono h.be.size), (hb.block _ (blk_lt h.bx)).trans h.bx, h.row.below hb⟩
theorem RuI.c {w W : World} {R : Option Addr} {b o c : Nat} {gs : Gr} {keep : Int} (h : RuI w R b o c gs keep W) : W.cell? ⟨w.heap.size, 0, none⟩ = some (.slice R gs.length c) ∧ W.cell? ⟨w.heap.size, 1, none⟩ = some (.int .i64 keep) := ⟨(blk_cell h.bx 0).trans rfl, (blk_cell h.bx 1).trans rfl⟩
theorem right_bad {gs : Gr} {keep : Int} {j : Nat} (hj : j < gs.length) (h : stOk gs j = false) : rightR gs keep = false := by
  have : (List.range gs.length).all (stOk gs) = false := by
    cases ha : (List.range gs.length).all (stOk gs) with
    | false => rfl
    | true =>
      have := (List.all_eq_true.1 ha) j (List.mem_range.2 hj)
      rw [h] at this
      cases this
  unfold rightR
  rw [this]
  simp
theorem right_good {gs : Gr} (h1 : 1 ≤ gs.length) (h2 : gs.length ≤ 4) (h3 : agG gs 0 = 0) (h4 : ∀ k, k < gs.length → stOk gs k = true) (keep : Int) : rightR gs keep = (decide (agG gs (gs.length - 1) ≤ keep) && decide (keep ≤ 2199023255552)) := by
  have : (List.range gs.length).all (stOk gs) = true := List.all_eq_true.2 fun k hk => h4 k (List.mem_range.1 hk)
  unfold rightR
  rw [this, decide_eq_true h1, decide_eq_true h2, decide_eq_true h3]
  simp
set_option maxRecDepth 100000 in
set_option maxHeartbeats 8000000 in
theorem gright_c {w : World} {R : Option Addr} {b o c : Nat} {gs : Gr} {keep : Int} (hR : gs ≠ [] → R = some ⟨b, o, none⟩) (h : GRow w b o gs) (hl : (gs.length : Int) ≤ 9223372036854775807) :
    Calls Try.prog 39 #[rulV R gs.length c keep] w fun e w' => e = .returned (.bool (rightR gs keep)) ∧ Below w.heap.size w w' := by
  unfold rulV
  have hI : RuI w R b o c gs keep (w.alloc (.cells #[.slice R gs.length c, .int .i64 keep] 24)) := ⟨(Below.refl _ w).alloc (Nat.le_refl _) _, al_new rfl, h.below ((Below.refl _ w).alloc (Nat.le_refl _) _)⟩
  have HI := Aside0.mk hI
  clear hI h
  by_cases h1 : 1 ≤ gs.length
  case neg =>
    have t1 : decide ((gs.length : Int) < 1) = true := decide_eq_true (by omega)
    have t1' : decide (gs.length < 1) = true := decide_eq_true (by omega)
    have hf : rightR gs keep = false := by unfold rightR; rw [decide_eq_false h1]; rfl
    go_enter Try.func39, Try.ntmps39
    go_wp2_with (first | go_step3 | fail)
    rw [Exit.noGoto_ret]
    go_ret
    exact ⟨by rw [hf]; rfl, HI.out.be⟩
  by_cases h2 : gs.length ≤ 4
  case neg =>
    have t1 : decide ((gs.length : Int) < 1) = false := decide_eq_false (by omega)
    have t1' : decide (gs.length < 1) = false := decide_eq_false (by omega)
    have t2 : decide ((4 : Int) < (gs.length : Int)) = true := decide_eq_true (by omega)
    have t2' : decide (4 < gs.length) = true := decide_eq_true (by omega)
    have hf : rightR gs keep = false := by unfold rightR; rw [decide_eq_true h1, decide_eq_false h2]; rfl
    go_enter Try.func39, Try.ntmps39
    go_wp2_with (first | go_step3 | fail)
    rw [Exit.noGoto_ret]
    go_ret
    exact ⟨by rw [hf]; rfl, HI.out.be⟩
  have t1 : decide ((gs.length : Int) < 1) = false := decide_eq_false (by omega)
  have t1' : decide (gs.length < 1) = false := decide_eq_false (by omega)
  have t2 : decide ((4 : Int) < (gs.length : Int)) = false := decide_eq_false (by omega)
  have t2' : decide (4 < gs.length) = false := decide_eq_false (by omega)
  obtain rfl := hR (by intro e; rw [e] at h1; simp at h1)
  obtain ⟨x0, x1⟩ := HI.out.row 0 (by omega)
  simp only [Nat.zero_mul, Nat.add_zero] at x0 x1
  have g0 : (0 : Int) < (gs.length : Int) := by omega
  have ha0 := agG_at (gs := gs) (j := 0) (by omega)
  rw [← ha0] at x1
  by_cases h3 : agG gs 0 = 0
  case neg =>
    have t3 : (agG gs 0 != 0) = true := by simp [h3]
    have hf : rightR gs keep = false := by unfold rightR; rw [decide_eq_true h1, decide_eq_true h2, decide_eq_false h3]; rfl
    clear hR ha0
    go_enter Try.func39, Try.ntmps39
    go_wp2_with (first | go_step3 | fail)
    rw [Exit.noGoto_ret]
    go_ret
    exact ⟨by rw [hf]; rfl, HI.out.be⟩
  have t3 : (agG gs 0 != 0) = false := by simp [h3]
  have H3 := Aside0.mk h3
  clear hR ha0 h3
  go_enter Try.func39, Try.ntmps39
  go_wp2_with (first | go_step3 | fail)
  go_loopw [4, 26] (fun ok i wr => ∃ (j : Nat), i = .int .i64 j ∧ ok = .bool true ∧ j ≤ gs.length ∧ Aside0 (∀ k, k < j → stOk gs k = true) ∧ Aside0 (RuI w (some ⟨b, o, none⟩) b o c gs keep wr)) (fun _ i _ => gs.length - (intOf i).toNat)
  case atStart => exact ⟨0, rfl, rfl, by omega, ⟨fun k hk => absurd hk (Nat.not_lt_zero _)⟩, HI⟩
  case round =>
    clear HI x0 x1
    obtain ⟨j, rfl, rfl, hj, HJ, HI⟩ := hrel
    obtain ⟨k0, k1⟩ := HI.out.c
    by_cases hlt : j < gs.length
    · cases j with
      | zero =>
        obtain ⟨x0, x1⟩ := HI.out.row 0 hlt
        rw [← szG_at hlt] at x0
        rw [← agG_at hlt] at x1
        simp only [Nat.zero_mul, Nat.add_zero] at x0 x1
        have g1 : (0 : Int) < (gs.length : Int) := by omega
        have g2 : decide ((0 : Int) < (gs.length : Int)) = true := decide_eq_true g1
        have g3 : decide (0 < gs.length) = true := decide_eq_true hlt
        by_cases p1 : 1 ≤ szG gs 0
        case neg =>
          have a1 : decide (1 ≤ szG gs 0) = false := decide_eq_false p1
          have hf := right_bad (keep := keep) hlt (by unfold stOk; simp [p1])
          have HX := Aside0.mk (HI.out.be.alloc HI.out.be.size (.cells #[.int .i64 (szG gs 0), .int .i64 (agG gs 0)] 79))
          go_wp2_with fail
          go_quiet (fail)
          go_wp2_with fail
          rw [Exit.noGoto_ret]
          go_ret
          exact ⟨by rw [hf]; rfl, bdrewN HX.out⟩
        have a1 : decide (1 ≤ szG gs 0) = true := decide_eq_true p1
        by_cases p2 : szG gs 0 ≤ 1099511627776
        case neg =>
          have a2 : decide (szG gs 0 ≤ 1099511627776) = false := decide_eq_false p2
          have hf := right_bad (keep := keep) hlt (by unfold stOk; simp [p2])
          have HX := Aside0.mk (HI.out.be.alloc HI.out.be.size (.cells #[.int .i64 (szG gs 0), .int .i64 (agG gs 0)] 79))
          go_wp2_with fail
          go_quiet (fail)
          go_wp2_with fail
          rw [Exit.noGoto_ret]
          go_ret
          exact ⟨by rw [hf]; rfl, bdrewN HX.out⟩
        have a2 : decide (szG gs 0 ≤ 1099511627776) = true := decide_eq_true p2
        by_cases p3 : agG gs 0 ≤ 1099511627776
        case neg =>
          have a3 : decide (agG gs 0 ≤ 1099511627776) = false := decide_eq_false p3
          have hf := right_bad (keep := keep) hlt (by unfold stOk; simp [p3])
          have HX := Aside0.mk (HI.out.be.alloc HI.out.be.size (.cells #[.int .i64 (szG gs 0), .int .i64 (agG gs 0)] 79))
          go_wp2_with fail
          go_quiet (fail)
          go_wp2_with fail
          rw [Exit.noGoto_ret]
          go_ret
          exact ⟨by rw [hf]; rfl, bdrewN HX.out⟩
        have a3 : decide (agG gs 0 ≤ 1099511627776) = true := decide_eq_true p3
        have HX := Aside0.mk (HI.out.below ((Below.refl _ wr).alloc (Nat.le_refl _) (.cells #[.int .i64 (szG gs 0), .int .i64 (agG gs 0)] 79)))
        have hst : stOk gs 0 = true := by unfold stOk; simp [p1, p2, p3]
        go_wp2_with fail
        go_roundw
        case rel => exact ⟨1, by go_num, rfl, by omega, ⟨fun k hk => by
          rw [show k = 0 by omega]
          exact hst⟩, HX⟩
        case measure => simp [intOf]; omega
      | succ m =>
        obtain ⟨x0, x1⟩ := HI.out.row (m + 1) hlt
        rw [← szG_at hlt] at x0
        rw [← agG_at hlt] at x1
        have hltm : m < gs.length := by omega
        obtain ⟨y0, y1⟩ := HI.out.row m hltm
        rw [← szG_at hltm] at y0
        rw [← agG_at hltm] at y1
        have hsm := HJ.out m (by omega)
        have hm1 : 1 ≤ szG gs m := by unfold stOk at hsm; simp only [Bool.and_eq_true, decide_eq_true_eq] at hsm; exact hsm.1
        have z0 := cell_below ((Below.refl _ wr).alloc (Nat.le_refl _) (.cells #[.int .i64 (szG gs (m + 1)), .int .i64 (agG gs (m + 1))] 79)) y0
        have z1 := cell_below ((Below.refl _ wr).alloc (Nat.le_refl _) (.cells #[.int .i64 (szG gs (m + 1)), .int .i64 (agG gs (m + 1))] 79)) y1
        have z2 := cell_below ((Below.refl _ wr).alloc (Nat.le_refl _) (.cells #[.int .i64 (szG gs (m + 1)), .int .i64 (agG gs (m + 1))] 79)) k0
        have g1 : ((m : Int) + 1) < (gs.length : Int) := by omega
        have g1' : (m : Int) < (gs.length : Int) := by omega
        have g2 : decide (((m + 1 : Nat) : Int) < (gs.length : Int)) = true := decide_eq_true (by omega)
        have g3 : decide (m + 1 < gs.length) = true := decide_eq_true hlt
        have g4 : (0 : Int) < (m : Int) + 1 := by omega
        have e1 : IntKind.i64.wrap ((m : Int) + 1 - 1) = (m : Int) := by rw [IntKind.wrap_i64]; omega
        have d1 : szG gs m ≠ 0 := by omega
        have d2 : (szG gs m == 0) = false := by simp [d1]
        clear hsm
        by_cases p1 : 1 ≤ szG gs (m + 1)
        case neg =>
          have a1 : decide (1 ≤ szG gs (m + 1)) = false := decide_eq_false p1
          have hf := right_bad (keep := keep) hlt (by unfold stOk; simp [p1])
          have HX := Aside0.mk (HI.out.be.alloc HI.out.be.size (.cells #[.int .i64 (szG gs (m + 1)), .int .i64 (agG gs (m + 1))] 79))
          go_wp2_with fail
          go_quiet (fail)
          go_wp2_with fail
          rw [Exit.noGoto_ret]
          go_ret
          exact ⟨by rw [hf]; rfl, bdrewN HX.out⟩
        have a1 : decide (1 ≤ szG gs (m + 1)) = true := decide_eq_true p1
        by_cases p2 : szG gs (m + 1) ≤ 1099511627776
        case neg =>
          have a2 : decide (szG gs (m + 1) ≤ 1099511627776) = false := decide_eq_false p2
          have hf := right_bad (keep := keep) hlt (by unfold stOk; simp [p2])
          have HX := Aside0.mk (HI.out.be.alloc HI.out.be.size (.cells #[.int .i64 (szG gs (m + 1)), .int .i64 (agG gs (m + 1))] 79))
          go_wp2_with fail
          go_quiet (fail)
          go_wp2_with fail
          rw [Exit.noGoto_ret]
          go_ret
          exact ⟨by rw [hf]; rfl, bdrewN HX.out⟩
        have a2 : decide (szG gs (m + 1) ≤ 1099511627776) = true := decide_eq_true p2
        by_cases p3 : agG gs (m + 1) ≤ 1099511627776
        case neg =>
          have a3 : decide (agG gs (m + 1) ≤ 1099511627776) = false := decide_eq_false p3
          have hf := right_bad (keep := keep) hlt (by unfold stOk; simp [p3])
          have HX := Aside0.mk (HI.out.be.alloc HI.out.be.size (.cells #[.int .i64 (szG gs (m + 1)), .int .i64 (agG gs (m + 1))] 79))
          go_wp2_with fail
          go_quiet (fail)
          go_wp2_with fail
          rw [Exit.noGoto_ret]
          go_ret
          exact ⟨by rw [hf]; rfl, bdrewN HX.out⟩
        have a3 : decide (agG gs (m + 1) ≤ 1099511627776) = true := decide_eq_true p3
        by_cases q1 : szG gs m < szG gs (m + 1)
        case neg =>
          have b1 : decide (szG gs m < szG gs (m + 1)) = false := decide_eq_false q1
          have hf := right_bad (keep := keep) hlt (by unfold stOk; simp [q1])
          have HX := Aside0.mk (HI.out.be.alloc HI.out.be.size (.cells #[.int .i64 (szG gs (m + 1)), .int .i64 (agG gs (m + 1))] 79))
          have HX2 := Aside0.mk (HX.out.alloc HX.out.size (.cells #[.int .i64 (szG gs m), .int .i64 (agG gs m)] 79))
          go_wp2_with fail
          go_quiet (fail)
          go_wp2_with fail
          rw [Exit.noGoto_ret]
          go_ret
          exact ⟨by rw [hf]; rfl, bdrewN HX2.out⟩
        have b1 : decide (szG gs m < szG gs (m + 1)) = true := decide_eq_true q1
        by_cases q2 : szG gs (m + 1) % szG gs m = 0
        case neg =>
          have b2 : (szG gs (m + 1) % szG gs m == 0) = false := by simp [q2]
          have hf := right_bad (keep := keep) hlt (by unfold stOk; simp [q2])
          have HX := Aside0.mk (HI.out.be.alloc HI.out.be.size (.cells #[.int .i64 (szG gs (m + 1)), .int .i64 (agG gs (m + 1))] 79))
          have HX2 := Aside0.mk (HX.out.alloc HX.out.size (.cells #[.int .i64 (szG gs m), .int .i64 (agG gs m)] 79))
          go_wp2_with fail
          go_quiet (fail)
          go_wp2_with fail
          rw [Exit.noGoto_ret]
          go_ret
          exact ⟨by rw [hf]; rfl, bdrewN HX2.out⟩
        have b2 : (szG gs (m + 1) % szG gs m == 0) = true := by rw [q2]; rfl
        by_cases q3 : agG gs m ≤ agG gs (m + 1)
        case neg =>
          have b3 : decide (agG gs m ≤ agG gs (m + 1)) = false := decide_eq_false q3
          have hf := right_bad (keep := keep) hlt (by unfold stOk; simp [q3])
          have HX := Aside0.mk (HI.out.be.alloc HI.out.be.size (.cells #[.int .i64 (szG gs (m + 1)), .int .i64 (agG gs (m + 1))] 79))
          have HX2 := Aside0.mk (HX.out.alloc HX.out.size (.cells #[.int .i64 (szG gs m), .int .i64 (agG gs m)] 79))
          go_wp2_with fail
          go_quiet (fail)
          go_wp2_with fail
          rw [Exit.noGoto_ret]
          go_ret
          exact ⟨by rw [hf]; rfl, bdrewN HX2.out⟩
        have b3 : decide (agG gs m ≤ agG gs (m + 1)) = true := decide_eq_true q3
        have HX := Aside0.mk (HI.out.below ((Below.refl _ wr).alloc (Nat.le_refl _) (.cells #[.int .i64 (szG gs (m + 1)), .int .i64 (agG gs (m + 1))] 79)))
        have HX2 := Aside0.mk (HX.out.below ((Below.refl _ _).alloc (Nat.le_refl _) (.cells #[.int .i64 (szG gs m), .int .i64 (agG gs m)] 79)))
        have hst : stOk gs (m + 1) = true := by unfold stOk; simp [p1, p2, p3, q1, q2, q3]
        go_wp2_with fail
        go_roundw
        case rel => exact ⟨m + 1 + 1, by go_num, rfl, by omega, ⟨fun k hk => by
          by_cases hkm : k = m + 1
          · rw [hkm]; exact hst
          · exact HJ.out k (by omega)⟩, HX2⟩
        case measure => simp [intOf]; omega
    · obtain rfl : j = gs.length := by omega
      have g2 : decide ((gs.length : Int) < (gs.length : Int)) = false := decide_eq_false (by omega)
      have g3 : decide (gs.length < gs.length) = false := decide_eq_false hlt
      obtain ⟨m, hm⟩ : ∃ m, gs.length = m + 1 := ⟨gs.length - 1, by omega⟩
      have hltm : m < gs.length := by omega
      obtain ⟨y0, y1⟩ := HI.out.row m hltm
      rw [← agG_at hltm] at y1
      have g4 : (m : Int) < (gs.length : Int) := by omega
      have e1 : IntKind.i64.wrap ((gs.length : Int) - 1) = (m : Int) := by rw [IntKind.wrap_i64]; omega
      have e2 : wrap64 ((gs.length : Int) - 1) = (m : Int) := by unfold wrap64; omega
      have hf := right_good h1 h2 H3.out HJ.out keep
      rw [show gs.length - 1 = m by omega] at hf
      have HM := Aside0.mk hm
      clear hm
      by_cases q1 : agG gs m ≤ keep
      · have a1 : decide (agG gs m ≤ keep) = true := decide_eq_true q1
        go_wp2_with fail
        go_quiet (fail)
        go_wp2_with fail
        rw [Exit.noGoto_ret]
        go_ret
        exact ⟨by rw [hf, a1]; rfl, bdrewN HI.out.be⟩
      · have a1 : decide (agG gs m ≤ keep) = false := decide_eq_false q1
        go_wp2_with fail
        go_quiet (fail)
        go_wp2_with fail
        rw [Exit.noGoto_ret]
        go_ret
        exact ⟨by rw [hf, a1]; rfl, bdrewN HI.out.be⟩
def TmOk (t : Int) : Prop := 0 ≤ t ∧ t ≤ 1099511627776
theorem gfits_c {w : World} {R : Option Addr} {b o c : Nat} {gs : Gr} {keep t m : Int} (hR : gs ≠ [] → R = some ⟨b, o, none⟩) (h : GRow w b o gs) (hg : rightR gs keep = true) (ht : TmOk t) (hm : TmOk m) :
    Calls Try.prog 73 #[rulV R gs.length c keep, .int .i64 t, .int .i64 m] w fun e w' => e = .returned (.int .i64 0) ∧ Below w.heap.size w w' := by
  have hr := rightR_iff hg
  have hB := (Below.refl _ w).alloc (Nat.le_refl _) (.cells #[.slice R gs.length c, .int .i64 keep] 24)
  have HGR := Aside0.mk (gright_c (c := c) (keep := keep) hR (h.below hB) (by have := hr.l2; omega))
  rw [hg] at HGR
  have e1 : (decide (0 ≤ t) && decide (t ≤ 1099511627776)) = true := by simp [ht.1, ht.2]
  have e2 : (decide (0 ≤ m) && decide (m ≤ 1099511627776)) = true := by simp [hm.1, hm.2]
  have E1 := Aside0.mk e1
  have E2 := Aside0.mk e2
  have tok : True := trivial
  unfold rulV at HGR ⊢
  clear e1 e2 h hg hr ht hm
  go_enter Try.func73, Try.ntmps73
  go_wp2_with (first
    | (go_at_call 39; refine HGR.out.mono ?_; rintro e w2 ⟨rfl, hb2⟩)
    | (go_at_call 75; have _t := tok; refine (istime_c t).mono ?_; rintro e w3 ⟨rfl, rfl⟩; rw [E1.out]; clear tok)
    | (go_at_call 75; refine (istime_c m).mono ?_; rintro e w4 ⟨rfl, rfl⟩; rw [E2.out])
    | fail)
  go_ret
  exact ⟨rfl, hB.trans (hb2.mono hB.size)⟩
theorem step_i {gs : Gr} {m t : Int} {i : Nat} (h1 : 1 ≤ i) (hi : i < gs.length) : stepG gs m t (gs.length - i) (i - 1) = if condG gs m t i then stepG gs m t (gs.length - (i + 1)) i else i - 1 := by
  obtain ⟨k, hk⟩ : ∃ k, gs.length - i = k + 1 := ⟨gs.length - i - 1, by omega⟩
  rw [hk, stepG, show i - 1 + 1 = i by omega, show gs.length - (i + 1) = k by omega]
set_option maxRecDepth 100000 in
set_option maxHeartbeats 2000000 in
theorem gstep_c {w : World} {R : Option Addr} {b o c : Nat} {gs : Gr} {keep t m : Int} (hR : gs ≠ [] → R = some ⟨b, o, none⟩) (h : GRow w b o gs) (hg : rightR gs keep = true) (ht : TmOk t) (hm : TmOk m) :
    Calls Try.prog 44 #[rulV R gs.length c keep, .int .i64 t, .int .i64 m] w fun e w' => e = .returned (.tuple #[.int .i64 (stp gs m t), .int .i64 0]) ∧ Below w.heap.size w w' := by
  have hr := rightR_iff hg
  have hI : RuI w R b o c gs keep (w.alloc (.cells #[.slice R gs.length c, .int .i64 keep] 24)) := ⟨(Below.refl _ w).alloc (Nat.le_refl _) _, al_new rfl, h.below ((Below.refl _ w).alloc (Nat.le_refl _) _)⟩
  have HF := Aside0.mk (gfits_c (c := c) hR hI.row hg ht hm)
  have HI := Aside0.mk hI
  have HR := Aside0.mk hr
  have HT := Aside0.mk ht
  have HM := Aside0.mk hm
  obtain rfl := hR (by intro e; have := hr.l1; rw [e] at this; simp at this)
  obtain ⟨k0, k1⟩ := hI.c
  have hl1 := hr.l1
  have hl2 := hr.l2
  unfold rulV at HF ⊢
  clear hR h hg hr hI ht hm
  go_enter Try.func44, Try.ntmps44
  go_wp2_with (first
    | (go_at_call 73
       refine HF.out.mono ?_
       rintro e w2 ⟨rfl, hb2⟩
       have HI2 := Aside0.mk (HI.out.below hb2)
       replace k0 := cell_below hb2 k0
       clear hb2)
    | go_step3 | fail)
  clear HI k0 k1
  go_loopw [9, 21] (fun s i wr => ∃ (j : Nat), i = .int .i64 j ∧ j ≤ gs.length ∧ s = .int .i64 (j - 1 : Nat) ∧ Aside0 (stp gs m t = stepG gs m t (gs.length - max j 1) (j - 1)) ∧ Aside0 (RuI w (some ⟨b, o, none⟩) b o c gs keep wr)) (fun _ i _ => gs.length - (intOf i).toNat)
  case atStart => exact ⟨0, rfl, by omega, rfl, ⟨rfl⟩, HI2⟩
  case round =>
    clear HI2
    obtain ⟨j, rfl, hj, rfl, HS, HI⟩ := hrel
    obtain ⟨k0, k1⟩ := HI.out.c
    by_cases hlt : j < gs.length
    · have g2 : decide ((j : Int) < (gs.length : Int)) = true := decide_eq_true (by omega)
      have g3 : decide (j < gs.length) = true := decide_eq_true hlt
      by_cases h0 : j = 0
      · subst h0
        go_wp2_with fail
        go_roundw
        case rel => exact ⟨1, by go_num, by omega, rfl, HS, HI⟩
        case measure => simp [intOf]; omega
      · obtain ⟨i, rfl⟩ : ∃ i, j = i + 1 := ⟨j - 1, by omega⟩
        obtain ⟨x0, x1⟩ := HI.out.row (i + 1) hlt
        rw [← szG_at hlt] at x0
        rw [← agG_at hlt] at x1
        have hsi := step_i (m := m) (t := t) (gs := gs) (i := i + 1) (by omega) hlt
        have hst := HS.out
        rw [show max (i + 1) 1 = i + 1 by omega, hsi] at hst
        rw [Nat.add_sub_cancel] at hst
        have hsz := HR.out.s1 (i + 1) hlt
        have hag := HR.out.ag (i + 1) hlt
        have hen := fun (W : World) => end_c (w := W) HT.out ⟨hsz.1, hsz.2.1⟩
        have HEN := Aside0.mk hen
        have e1 : wrap64 (m - agG gs (i + 1)) = m - agG gs (i + 1) := by have := HM.out.1; have := HM.out.2; unfold wrap64; omega
        have e1' : IntKind.i64.wrap (m - agG gs (i + 1)) = m - agG gs (i + 1) := by rw [IntKind.wrap_i64]; have := HM.out.1; have := HM.out.2; omega
        have e2 : ((i : Int) + 1 == 0) = false := by simp; omega
        have g4 : (i : Int) + 1 < (gs.length : Int) := by omega
        clear hsi hen hsz hag
        by_cases hc : condG gs m t (i + 1) = true
        · have hc' : decide (m - agG gs (i + 1) < flo t (szG gs (i + 1)) + szG gs (i + 1)) = false := by
            unfold condG at hc
            exact decide_eq_false (by have := of_decide_eq_true hc; omega)
          rw [if_pos hc] at hst
          have HST := Aside0.mk hst
          clear hst hc
          go_wp2_with fail
          go_quiet (first | (go_at_call 74; refine Calls.quiet_of_same (HEN.out _)))
          go_wp2_with fail
          go_roundw
          case rel => exact ⟨i + 1 + 1, by go_num, by omega, by go_num, ⟨by rw [show max (i + 1 + 1) 1 = i + 1 + 1 by omega]; exact HST.out⟩, ⟨HI.out.below (bdrewN (Below.refl _ _))⟩⟩
          case measure => simp [intOf]; omega
        · have hc' : decide (m - agG gs (i + 1) < flo t (szG gs (i + 1)) + szG gs (i + 1)) = true := by
            unfold condG at hc
            exact decide_eq_true (by simpa using hc)
          rw [if_neg hc] at hst
          have HST := Aside0.mk hst
          clear hst hc
          go_wp2_with fail
          go_quiet (first | (go_at_call 74; refine Calls.quiet_of_same (HEN.out _)))
          go_wp2_with fail
          rw [Exit.noGoto_ret]
          go_ret2
          exact ⟨by rw [HST.out]; rfl, bdrewN HI.out.be⟩
    · obtain rfl : j = gs.length := by omega
      have g2 : decide ((gs.length : Int) < (gs.length : Int)) = false := decide_eq_false (by omega)
      have g3 : decide (gs.length < gs.length) = false := decide_eq_false hlt
      have hst := HS.out
      rw [show gs.length - max gs.length 1 = 0 by omega, stepG] at hst
      have HST := Aside0.mk hst
      clear hst
      go_wp2_with fail
      rw [Exit.noGoto_ret]
      go_ret2
      exact ⟨by rw [HST.out]; rfl, HI.out.be⟩
set_option maxRecDepth 100000 in
theorem gexp_c {w : World} {R : Option Addr} {b o c : Nat} {gs : Gr} {keep t m : Int} (hR : gs ≠ [] → R = some ⟨b, o, none⟩) (h : GRow w b o gs) (hg : rightR gs keep = true) (ht : TmOk t) (hm : TmOk m) :
    Calls Try.prog 43 #[rulV R gs.length c keep, .int .i64 t, .int .i64 m] w fun e w' => e = .returned (.tuple #[.bool (goneG gs keep m t), .int .i64 0]) ∧ Below w.heap.size w w' := by
  have hr := rightR_iff hg
  have hI : RuI w R b o c gs keep (w.alloc (.cells #[.slice R gs.length c, .int .i64 keep] 24)) := ⟨(Below.refl _ w).alloc (Nat.le_refl _) _, al_new rfl, h.below ((Below.refl _ w).alloc (Nat.le_refl _) _)⟩
  have HF := Aside0.mk (gfits_c (c := c) hR hI.row hg ht hm)
  have HI := Aside0.mk hI
  obtain rfl := hR (by intro e; have := hr.l1; rw [e] at this; simp at this)
  obtain ⟨k0, k1⟩ := hI.c
  have hl1 := hr.l1
  have hl2 := hr.l2
  obtain ⟨n, hn⟩ : ∃ n, gs.length = n + 1 := ⟨gs.length - 1, by omega⟩
  have hltm : n < gs.length := by omega
  obtain ⟨y0, y1⟩ := hI.row n hltm
  rw [← szG_at hltm] at y0
  have hsz := hr.s1 n hltm
  have HEN := Aside0.mk (fun (W : World) => end_c (w := W) ht ⟨hsz.1, hsz.2.1⟩)
  have hk1 := hr.k1
  have hk2 := hr.k2
  have hag := hr.ag n hltm
  rw [show gs.length - 1 = n by omega] at hk1
  have e3 : IntKind.i64.wrap (m - keep) = m - keep := by rw [IntKind.wrap_i64]; have := hm.1; have := hm.2; omega
  have e3' : wrap64 (m - keep) = m - keep := by have := hm.1; have := hm.2; unfold wrap64; omega
  have hgo : goneG gs keep m t = decide (flo t (szG gs n) + szG gs n ≤ m - keep) := by unfold goneG; rw [show gs.length - 1 = n by omega]
  have HGO := Aside0.mk hgo
  have g4 : (n : Int) < (gs.length : Int) := by omega
  have e1 : IntKind.i64.wrap ((gs.length : Int) - 1) = (n : Int) := by rw [IntKind.wrap_i64]; omega
  have e2 : wrap64 ((gs.length : Int) - 1) = (n : Int) := by unfold wrap64; omega
  unfold rulV at HF ⊢
  clear hR h hg hr hI ht hm hgo hk1 hk2 hag hsz hn y1
  go_enter Try.func43, Try.ntmps43
  go_upto_region 4 with (first
    | (go_at_call 73
       refine HF.out.mono ?_
       rintro e w2 ⟨rfl, hb2⟩
       have HI2 := Aside0.mk (HI.out.below hb2)
       replace k0 := cell_below hb2 k0
       replace k1 := cell_below hb2 k1
       replace y0 := cell_below hb2 y0
       clear hb2)
    | fail)
  go_quiet (first | (go_at_call 74; refine Calls.quiet_of_same (HEN.out _)))
  go_wp2_with fail
  go_ret2
  exact ⟨by rw [HGO.out]; rfl, bdrewN HI2.out.be⟩
end Go.Proofs.Ytoikaegohkolkaa.Top
namespace Go.Proofs.Ytoikaegohkolkaa.Top
set_option linter.unusedSimpArgs false
set_option linter.unusedVariables false
open Go.RowKit Go.Proofs.YtoikaegohkolkaaW.PrintWords Go.Proofs.YtoikaegohkolkaaW.PrintLast Go.Proofs.YtoikaegohkolkaaW.PrintMore Go.Proofs.Ytoikaegohkolkaa.Plain Go.Proofs.Ytoikaegohkolkaa.KFns Go.Proofs.Ytoikaegohkolkaa.Fns
/-- A row of texts that can be read. -/
def RdS (w : World) (A : Option Addr) (l : List ByteArray) : Prop := Kd.string.C w A l.length l
theorem RdS.below {w w1 : World} {A : Option Addr} {l : List ByteArray} (h : RdS w A l) (hb : Below w.heap.size w w1) : RdS w1 A l := Kd.C_below h hb
def keyV (A : Option Addr) (n c : Nat) (z g : Int) : Value := .agg #[.slice A n c, .int .i64 z, .int .i64 g]
theorem kwrite_c {w : World} {A : Option Addr} {c : Nat} {l : List ByteArray} {z g : Int} (h : RdS w A l) (hc : l.length ≤ c) (hr : rightB l z g = true) :
    Calls Try.prog 46 #[keyV A l.length c z g] w fun e w' => ∃ v, e = .returned (.tuple #[v, .int .i64 0]) ∧ w'.ownsRow w.heap.size 5 1 v (kb l z g).length (nums .u8 (kb l z g)) ∧ Below w.heap.size w w' := by
  obtain ⟨k, hk⟩ := ev_write l z g
  have hw : wr l z g = (kb l z g, 0) := by unfold wr; rw [if_pos hr]
  have hk' := hk k (Nat.le_refl _)
  rw [hw] at hk'
  exact (Lib.key_Write.calls k A c l z g _ _ w h hc hk').mono fun e w' ⟨v, he, hR, hb⟩ => ⟨v, he, Kd.own_of_R hR, hb⟩
open Classical in
/-- What any bytes say: a key, or none. -/
noncomputable def rdK (k : List Int) : List ByteArray × Int × Int × Int := if h : ∃ r, IsRead [] k r then h.choose else ([], 0, 0, 40)
theorem rdK_is {k : List Int} (hb : Byt k) (hl : k.length ≤ 1000000) : IsRead [] k (rdK k) := by
  obtain ⟨r, _, hr⟩ := ev_read hb hl
  have h : ∃ r, IsRead [] k r := ⟨r, hr⟩
  unfold rdK
  rw [dif_pos h]
  exact h.choose_spec
theorem rdK_kb {l : List ByteArray} {z g : Int} (hr : rightB l z g = true) : rdK (kb l z g) = (l, z, g, 0) := by
  have h1 : IsRead [] (kb l z g) (l, z, g, 0) := .inl ⟨l, z, g, by simpa using hr, rfl, by simp⟩
  have h : ∃ r, IsRead [] (kb l z g) r := ⟨_, h1⟩
  unfold rdK
  rw [dif_pos h]
  exact isRead_uniq h.choose_spec h1
theorem rdK_zero {k : List Int} (hb : Byt k) (hl : k.length ≤ 1000000) (h0 : (rdK k).2.2.2 = 0) : ∃ l z g, rightB l z g = true ∧ k = kb l z g ∧ rdK k = (l, z, g, 0) := by
  rcases rdK_is hb hl with ⟨l, z, g, h1, h2, h3⟩ | ⟨_, h3⟩
  · exact ⟨l, z, g, by simpa using h1, h2, by simpa using h3⟩
  · rw [h3] at h0
    cases h0
theorem rdK_err {k : List Int} (hb : Byt k) (hl : k.length ≤ 1000000) : (rdK k).2.2.2 = 0 ∨ (rdK k).2.2.2 = 40 := by
  rcases rdK_is hb hl with ⟨l, z, g, h1, h2, h3⟩ | ⟨_, h3⟩
  · rw [h3]; exact .inl rfl
  · rw [h3]; exact .inr rfl
theorem kread_c {w : World} {A : Option Addr} {c : Nat} {k : List Int} (h : RdB w A k) (hc : k.length ≤ c) (hb : Byt k) (hl : k.length ≤ 1000000) :
    Calls Try.prog 42 #[.slice A k.length c] w fun e w' => ∃ B d, e = .returned (.tuple #[keyV B (rdK k).1.length d (rdK k).2.1 (rdK k).2.2.1, .int .i64 (rdK k).2.2.2]) ∧ RdS w' B (rdK k).1 ∧ (rdK k).1.length ≤ d ∧ Below w.heap.size w w' := by
  obtain ⟨r, ⟨n, hev⟩, hi⟩ := ev_read hb hl
  have e : rdK k = r := isRead_uniq (rdK_is hb hl) hi
  rw [e]
  obtain ⟨l, z, g, s⟩ := r
  refine (Lib.key_Read.calls n A c k l z g s w h hc (hev n (Nat.le_refl _))).mono fun e w' ⟨v, he, hR, hb⟩ => ?_
  obtain ⟨B, d, rfl, hd, hC⟩ := Kd.R_reads hR
  exact ⟨B, d, he, hC, hd, hb⟩
/-- Whether an entry fits. -/
noncomputable def fitsE (gs : Gr) (k : List Int) (a : Ag) : Bool := decide ((rdK k).2.2.2 = 0) && (decide ((rdK k).2.2.1 < (gs.length : Int)) && (decide ((rdK k).2.1 % szG gs (rdK k).2.2.1.toNat = 0) && (decide (a.c ≠ 0) && rightF a)))
/-- What a key becomes at a watermark: none: it is expired. -/
noncomputable def atB (gs : Gr) (m : Int) (k : List Int) : List Int := kb (rdK k).1 (frF gs m (rdK k).2.1 (rdK k).2.2.1.toNat) ((grF gs m (rdK k).2.1 (rdK k).2.2.1.toNat : Nat) : Int)
noncomputable def atF (gs : Gr) (keep m : Int) (k : List Int) : Option (List Int) := if goneG gs keep m (rdK k).2.1 then none else some (atB gs m k)
/-- A key that fits rules. -/
structure KOk (gs : Gr) (k : List Int) : Prop where
  byt : Byt k
  len : k.length ≤ 1000000
  ok : (rdK k).2.2.2 = 0
  g0 : 0 ≤ (rdK k).2.2.1
  gl : (rdK k).2.2.1 < (gs.length : Int)
  z0 : TmOk (rdK k).2.1
  md : (rdK k).2.1 % szG gs (rdK k).2.2.1.toNat = 0
  rt : rightB (rdK k).1 (rdK k).2.1 (rdK k).2.2.1 = true
  kbe : k = KFns.kb (rdK k).1 (rdK k).2.1 (rdK k).2.2.1
theorem fitsE_kok {gs : Gr} {k : List Int} {a : Ag} (hb : Byt k) (hl : k.length ≤ 1000000) (h : fitsE gs k a = true) : KOk gs k ∧ a.c ≠ 0 ∧ rightF a = true := by
  unfold fitsE at h
  simp only [Bool.and_eq_true, decide_eq_true_eq] at h
  obtain ⟨h1, h2, h3, h4, h5⟩ := h
  obtain ⟨l, z, g, hr, hk, he⟩ := rdK_zero hb hl h1
  obtain ⟨_, r1, r2, r3, r4⟩ := right_true hr
  rw [he] at h2 h3
  exact ⟨⟨hb, hl, h1, by rw [he]; exact r3, by rw [he]; exact h2, by rw [he]; exact ⟨r1, r2⟩, by rw [he]; exact h3, by rw [he]; exact hr, by rw [he]; exact hk⟩, h4, h5⟩
theorem KOk.at_right {gs : Gr} {keep m : Int} {k : List Int} (h : KOk gs k) (hr : RightR gs keep) : rightB (rdK k).1 (frF gs m (rdK k).2.1 (rdK k).2.2.1.toNat) ((grF gs m (rdK k).2.1 (rdK k).2.2.1.toNat : Nat) : Int) = true := by
  have hg : (rdK k).2.2.1.toNat < gs.length := by have := h.gl; have := h.g0; omega
  have h1 := frF_le hr m hg h.z0.1
  have h2 := grF_lt hr.l1 m (rdK k).2.1 hg
  have h3 := hr.l2
  have h4 := (right_true h.rt).1
  have h5 := h.z0.2
  unfold rightB
  simp only [Bool.and_eq_true, decide_eq_true_eq]
  exact ⟨h4, h1.1, by omega, by omega, by omega⟩
theorem KOk.rd_at {gs : Gr} {keep m : Int} {k : List Int} (h : KOk gs k) (hr : RightR gs keep) : rdK (atB gs m k) = ((rdK k).1, frF gs m (rdK k).2.1 (rdK k).2.2.1.toNat, ((grF gs m (rdK k).2.1 (rdK k).2.2.1.toNat : Nat) : Int), 0) := rdK_kb (h.at_right hr)
/-- What it becomes fits too. -/
theorem KOk.at_ok {gs : Gr} {keep m : Int} {k : List Int} (h : KOk gs k) (hr : RightR gs keep) : KOk gs (atB gs m k) := by
  have hg : (rdK k).2.2.1.toNat < gs.length := by have := h.gl; have := h.g0; omega
  have h1 := frF_le hr m hg h.z0.1
  have h2 := grF_lt hr.l1 m (rdK k).2.1 hg
  have h3 := h.at_right (m := m) hr
  have h5 := h.z0.2
  have e := h.rd_at (m := m) hr
  have hlen := kb_length h3
  refine ⟨kb_byt h3, ?_, by rw [e], by rw [e]; simp only; omega, by rw [e]; simp only; omega, by rw [e]; exact ⟨h1.1, Int.le_trans h1.2 h5⟩, ?_, by rw [e]; exact h3, by rw [e]; rfl⟩
  · show (kb _ _ _).length ≤ _
    omega
  · rw [e]
    simp only [Int.toNat_natCast]
    exact frF_mod
/-- Once more it stays. -/
theorem KOk.at_twice {gs : Gr} {keep m : Int} {k : List Int} (h : KOk gs k) (hr : RightR gs keep) : atB gs m (atB gs m k) = atB gs m k := by
  have hg : (rdK k).2.2.1.toNat < gs.length := by have := h.gl; have := h.g0; omega
  have e := h.rd_at (m := m) hr
  have e1 := gr_twice hr m hg h.md
  have e2 := fr_twice hr m hg h.md
  show kb _ _ _ = kb _ _ _
  rw [e]
  simp only [Int.toNat_natCast]
  rw [e1, e2]
theorem KOk.gone_twice {gs : Gr} {keep m : Int} {k : List Int} (h : KOk gs k) (hr : RightR gs keep) : goneG gs keep m (rdK (atB gs m k)).2.1 = goneG gs keep m (rdK k).2.1 := by
  have hg : (rdK k).2.2.1.toNat < gs.length := by have := h.gl; have := h.g0; omega
  rw [h.rd_at hr]
  exact Top.gone_twice hr m hg
theorem atF_twice {gs : Gr} {keep m : Int} {k k' : List Int} (h : KOk gs k) (hr : RightR gs keep) (ha : atF gs keep m k = some k') : KOk gs k' ∧ atF gs keep m k' = some k' := by
  unfold atF at ha
  split at ha
  · cases ha
  · rename_i hg
    simp only [Option.some.injEq] at ha
    subst ha
    refine ⟨h.at_ok hr, ?_⟩
    unfold atF
    rw [h.gone_twice hr, if_neg hg, h.at_twice hr]
end Go.Proofs.Ytoikaegohkolkaa.Top
