/-
  Merge where the first one tells that it is too much; conditions: those that each theorem states.
-/
import Derived.Test.YtoikaegohkolkaaGA
namespace Go.Proofs.Ytoikaegohkolkaa.Top
set_option linter.unusedSimpArgs false
set_option linter.unusedVariables false
open Go.RowKit Go.Proofs.YtoikaegohkolkaaW.PrintWords Go.Proofs.YtoikaegohkolkaaW.PrintLast Go.Proofs.YtoikaegohkolkaaW.PrintMore
section
variable {P : Program} {md : Region.Mode} {ops : Array Oper} {Q : Exit → Act → World → Prop} {S : World → Prop}
theorem tk {i N : Nat} {oi : Oper} {v : Value} {fuel : Nat} {listed : Array Bool} {a : Act} {w : World} (hi : ops[i]? = some oi) (hN : oi.dst = some N)
    (hs : Region.noSelect ops = true) (hf : Region.free md ops listed i = true) (hr : (Region.ready md ops listed).contains i = true)
    (hQ : ∀ c a w, Q (.panic c) (a.put oi.dst v) w → Q (.panic c) a w) (hy : YieldsIf P ops S oi v a) (hS : S w)
    (h : wpAnyH P md ops Q S fuel (listed.setIfInBounds i true) (a.put (some N) v) w) : wpAnyH P md ops Q S (fuel + 1) listed a w := by
  rw [← hN] at h
  exact wpAnyH_take hi hs hf hr hQ hy hS h
theorem with_tail {f : Nat → Act} {R : World → Nat → Prop} {fuel : Nat} {listed : Array Bool} {a : Act} {w : World} (tail : ∀ X G, R X G → Q .normal (f G) X)
    (main : (∀ X G, R X G → Q .normal (f G) X) → wpAnyH P md ops Q S fuel listed a w) : wpAnyH P md ops Q S fuel listed a w := main tail
end
set_option maxHeartbeats 4000000 in
set_option maxRecDepth 100000 in
theorem merge_t {w : World} {a b : Ag} (ha : a.ok) (hb : b.ok) (hao : a.o = true) : Calls Try.prog 27 #[a.v, b.v] w fun e w' => e = .returned (mergeF a b).v ∧ Below w.heap.size w w' := by
  obtain ⟨ac, ao, ah, al, an, ax⟩ := a
  obtain ⟨bc, bo, bh, bl, bn, bx⟩ := b
  obtain ⟨⟨hac0, hac1⟩, _, ⟨hal0, hal1⟩⟩ := ha
  obtain ⟨⟨hbc0, hbc1⟩, _, ⟨hbl0, hbl1⟩⟩ := hb
  simp only at hac0 hac1 hal0 hal1 hbc0 hbc1 hbl0 hbl1
  have HAO : Aside0 (ao = true) := Aside0.mk hao
  clear hao
  have hm : (ac = 0 ∧ mergeF ⟨ac, ao, ah, al, an, ax⟩ ⟨bc, bo, bh, bl, bn, bx⟩ = ⟨bc, bo, bh, bl, bn, bx⟩) ∨ ((ac == 0) = false ∧ bc = 0 ∧ mergeF ⟨ac, ao, ah, al, an, ax⟩ ⟨bc, bo, bh, bl, bn, bx⟩ = ⟨ac, ao, ah, al, an, ax⟩) ∨
      ((ac == 0) = false ∧ (bc == 0) = false ∧ (IntKind.u64.wrap (ac + bc) < ac ∨ (ao || bo) = true) ∧ mergeF ⟨ac, ao, ah, al, an, ax⟩ ⟨bc, bo, bh, bl, bn, bx⟩ = ⟨18446744073709551615, true, addHi ah al bh bl, addLo al bl, minF an bn, maxF ax bx⟩) ∨
      ((ac == 0) = false ∧ (bc == 0) = false ∧ ¬ (IntKind.u64.wrap (ac + bc) < ac) ∧ (ao = false ∧ bo = false) ∧ mergeF ⟨ac, ao, ah, al, an, ax⟩ ⟨bc, bo, bh, bl, bn, bx⟩ = ⟨IntKind.u64.wrap (ac + bc), false, addHi ah al bh bl, addLo al bl, minF an bn, maxF ax bx⟩) := by
    by_cases h1 : ac = 0
    · exact .inl ⟨h1, by simp [mergeF, h1]⟩
    · by_cases h2 : bc = 0
      · exact .inr (.inl ⟨beq_eq_false_iff_ne.2 h1, h2, by simp [mergeF, h1, h2]⟩)
      · by_cases h3 : IntKind.u64.wrap (ac + bc) < ac ∨ (ao || bo) = true
        · exact .inr (.inr (.inl ⟨beq_eq_false_iff_ne.2 h1, beq_eq_false_iff_ne.2 h2, h3, by unfold mergeF; rw [if_neg h1, if_neg h2, if_pos h3]⟩))
        · refine .inr (.inr (.inr ⟨beq_eq_false_iff_ne.2 h1, beq_eq_false_iff_ne.2 h2, fun h => h3 (.inl h), ?_, ?_⟩))
          · cases ao <;> cases bo <;> simp at h3 ⊢
          · unfold mergeF
            rw [if_neg h1, if_neg h2, if_neg h3]
            have : (ao || bo) = false := by cases ao <;> cases bo <;> simp at h3 ⊢
            simp only [this]
  rcases hm with ⟨h1, hm⟩ | ⟨h1, h2, hm⟩ | h3
  · rw [hm]
    clear hm
    subst h1
    unfold Ag.v
    go_enter Try.func27, Try.ntmps27
    go_wp2
    refine bodyPost_ret (results_cell_row rfl _ _ (w.heap.size + 1 + 1) 54 #[.int .u64 bc, .bool bo, .int .i64 bh, .int .u64 bl, .int .i64 bn, .int .i64 bx] (0, 0) _ rfl (al_new (by simp [World.size_alloc])) Try.underlying54 rfl (by kernel_rfl)) rfl ?_
    exact ⟨rfl, ((((Below.refl _ w).alloc (Nat.le_refl _) _).alloc (by simp [World.size_alloc]) _).alloc (by simp [World.size_alloc]; omega) _)⟩
  · rw [hm]
    clear hm
    subst h2
    unfold Ag.v
    go_enter Try.func27, Try.ntmps27
    go_wp2
    refine bodyPost_ret (results_cell_row rfl _ _ (w.heap.size + 1 + 1) 54 #[.int .u64 ac, .bool ao, .int .i64 ah, .int .u64 al, .int .i64 an, .int .i64 ax] (0, 0) _ rfl (al_new (by simp [World.size_alloc])) Try.underlying54 rfl (by kernel_rfl)) rfl ?_
    exact ⟨rfl, ((((Below.refl _ w).alloc (Nat.le_refl _) _).alloc (by simp [World.size_alloc]) _).alloc (by simp [World.size_alloc]; omega) _)⟩
  · have h1 : (ac == 0) = false := by rcases h3 with h | h <;> exact h.1
    have h2 : (bc == 0) = false := by rcases h3 with h | h <;> exact h.2.1
    have H3 := Aside0.mk h3
    clear h3
    unfold Ag.v
    generalize mergeF ⟨ac, ao, ah, al, an, ax⟩ ⟨bc, bo, bh, bl, bn, bx⟩ = m at H3 ⊢
    go_enter Try.func27, Try.ntmps27
    go_wp2_with fail
    have hA : (((w.alloc (.cells #[.int .u64 ac, .bool ao, .int .i64 ah, .int .u64 al, .int .i64 an, .int .i64 ax] 54)).alloc (.cells #[.int .u64 bc, .bool bo, .int .i64 bh, .int .u64 bl, .int .i64 bn, .int .i64 bx] 54)).alloc (.cells #[.int .u64 0, .bool false, .int .i64 0, .int .u64 0, .int .i64 0, .int .i64 0] 54)).heap[w.heap.size]? = some (.cells #[.int .u64 ac, .bool ao, .int .i64 ah, .int .u64 al, .int .i64 an, .int .i64 ax] 54 (0, 0)) := al_old (al_old (al_new rfl) _) _
    have hBB : (((w.alloc (.cells #[.int .u64 ac, .bool ao, .int .i64 ah, .int .u64 al, .int .i64 an, .int .i64 ax] 54)).alloc (.cells #[.int .u64 bc, .bool bo, .int .i64 bh, .int .u64 bl, .int .i64 bn, .int .i64 bx] 54)).alloc (.cells #[.int .u64 0, .bool false, .int .i64 0, .int .u64 0, .int .i64 0, .int .i64 0] 54)).heap[w.heap.size + 1]? = some (.cells #[.int .u64 bc, .bool bo, .int .i64 bh, .int .u64 bl, .int .i64 bn, .int .i64 bx] 54 (0, 0)) := al_old (al_new (by simp [World.size_alloc])) _
    have hR : (((w.alloc (.cells #[.int .u64 ac, .bool ao, .int .i64 ah, .int .u64 al, .int .i64 an, .int .i64 ax] 54)).alloc (.cells #[.int .u64 bc, .bool bo, .int .i64 bh, .int .u64 bl, .int .i64 bn, .int .i64 bx] 54)).alloc (.cells #[.int .u64 0, .bool false, .int .i64 0, .int .u64 0, .int .i64 0, .int .i64 0] 54)).heap[w.heap.size + 1 + 1]? = some (.cells #[.int .u64 0, .bool false, .int .i64 0, .int .u64 0, .int .i64 0, .int .i64 0] 54 (0, 0)) := al_new (by simp [World.size_alloc])
    have hB : Below w.heap.size w (((w.alloc (.cells #[.int .u64 ac, .bool ao, .int .i64 ah, .int .u64 al, .int .i64 an, .int .i64 ax] 54)).alloc (.cells #[.int .u64 bc, .bool bo, .int .i64 bh, .int .u64 bl, .int .i64 bn, .int .i64 bx] 54)).alloc (.cells #[.int .u64 0, .bool false, .int .i64 0, .int .u64 0, .int .i64 0, .int .i64 0] 54)) := ((((Below.refl _ w).alloc (Nat.le_refl _) _).alloc (by simp [World.size_alloc]) _).alloc (by simp [World.size_alloc]; omega) _)
    have hgr : w.heap.size ≤ w.heap.size + 1 + 1 := by omega
    generalize hga : w.heap.size = ga at *
    generalize hgb : ga + 1 = gb at *
    generalize hgrr : gb + 1 = gr at *
    generalize (((w.alloc (.cells #[.int .u64 ac, .bool ao, .int .i64 ah, .int .u64 al, .int .i64 an, .int .i64 ax] 54)).alloc (.cells #[.int .u64 bc, .bool bo, .int .i64 bh, .int .u64 bl, .int .i64 bn, .int .i64 bx] 54)).alloc (.cells #[.int .u64 0, .bool false, .int .i64 0, .int .u64 0, .int .i64 0, .int .i64 0] 54)) = W0 at *
    have HGA := Aside0.mk hga
    have hgrr' : ga ≤ gr := by omega
    have hgrr2 := hgrr'
    clear hga hgb hgrr
    have hgrr := hgrr2
    clear hgrr2 hgrr'
    have hsplit : (decide (IntKind.u64.wrap (ac + bc) < ac) = true ∧ m = ⟨18446744073709551615, true, addHi ah al bh bl, addLo al bl, minF an bn, maxF ax bx⟩) ∨ (decide (IntKind.u64.wrap (ac + bc) < ac) = false ∧ (ao || bo) = true ∧ m = ⟨18446744073709551615, true, addHi ah al bh bl, addLo al bl, minF an bn, maxF ax bx⟩) ∨ (decide (IntKind.u64.wrap (ac + bc) < ac) = false ∧ ao = false ∧ bo = false ∧ m = ⟨IntKind.u64.wrap (ac + bc), false, addHi ah al bh bl, addLo al bl, minF an bn, maxF ax bx⟩) := by
      by_cases hd : IntKind.u64.wrap (ac + bc) < ac
      · refine .inl ⟨decide_eq_true hd, ?_⟩
        rcases H3.out with h | h
        · exact h.2.2.2
        · exact absurd hd (by have := h.2.2.1; omega)
      · rcases H3.out with h | h
        · exact .inr (.inl ⟨decide_eq_false hd, h.2.2.1.resolve_left hd, h.2.2.2⟩)
        · exact .inr (.inr ⟨decide_eq_false hd, h.2.2.2.1.1, h.2.2.2.1.2, h.2.2.2.2⟩)
    have HS := Aside0.mk hsplit
    clear hsplit H3
    have hao := HAO.out
    clear HAO
    subst hao
    have hM0 : MS w ga gb gr (.int .u64 ac) (.bool true) (.int .i64 ah) (.int .u64 al) (.int .i64 an) (.int .i64 ax) (.int .u64 bc) (.bool bo) (.int .i64 bh) (.int .u64 bl) (.int .i64 bn) (.int .i64 bx) (.int .u64 0) (.bool false) (.int .i64 0) (.int .u64 0) (.int .i64 0) (.int .i64 0) W0 := ⟨hA, hBB, hR, hB, Nat.le_of_lt (blk_lt hA)⟩
    have hM := MS.drew hM0
    have hn1 : ga ≠ W0.heap.size := Nat.ne_of_lt (blk_lt hM.a)
    have hn2 : gb ≠ W0.heap.size := Nat.ne_of_lt (blk_lt hM.b)
    have hn3 : gr ≠ W0.heap.size := Nat.ne_of_lt (blk_lt hM.r)
    have hn4 : ga ≤ W0.heap.size := hM.le
    clear hA hBB hR hB
    refine wp_region_noPanic ?_
    refine wp_region_held_drew (S := fun w' => MS w ga gb gr (.int .u64 ac) (.bool true) (.int .i64 ah) (.int .u64 al) (.int .i64 an) (.int .i64 ax) (.int .u64 bc) (.bool bo) (.int .i64 bh) (.int .u64 bl) (.int .i64 bn) (.int .i64 bx) (.int .u64 0) (.bool false) (.int .i64 0) (.int .u64 0) (.int .i64 0) (.int .i64 0) w') (by kernel_rfl) hM (fun hHeld => ?_)
    refine with_tail (f := fun G => { tmps := #[.agg #[.int .u64 ac, .bool true, .int .i64 ah, .int .u64 al, .int .i64 an, .int .i64 ax], .agg #[.int .u64 bc, .bool bo, .int .i64 bh, .int .u64 bl, .int .i64 bn, .int .i64 bx], .pointer (some ⟨ga, 0, none⟩), .pointer (some ⟨gb, 0, none⟩), .pointer (some ⟨gr, 0, none⟩), .func (.func 48) #[] #[], .func (.func 49) #[] #[], .pointer (some ⟨G, 0, none⟩), .pointer (some ⟨ga, 0, none⟩), .int .u64 ac, .bool false, undef, .pointer (some ⟨gb, 0, none⟩), .int .u64 bc, .bool false, undef, .pointer (some ⟨ga, 0, none⟩), .int .u64 ac, .pointer (some ⟨gb, 0, none⟩), .int .u64 bc, .int .u64 (IntKind.u64.wrap (ac + bc)), .pointer (some ⟨ga, 1, none⟩), .bool true, .bool true, undef, undef, .bool true, .pointer (some ⟨ga, 2, none⟩), .agg #[.int .i64 ah, .int .u64 al], .pointer (some ⟨gb, 2, none⟩), .agg #[.int .i64 bh, .int .u64 bl], .agg #[.int .i64 (addHi ah al bh bl), .int .u64 (addLo al bl)], .pointer (some ⟨ga, 4, none⟩), .int .i64 an, .pointer (some ⟨gb, 4, none⟩), .int .i64 bn, .func (.func 48) #[] #[], .int .i64 (minF an bn), .pointer (some ⟨ga, 5, none⟩), .int .i64 ax, .pointer (some ⟨gb, 5, none⟩), .int .i64 bx, .func (.func 49) #[] #[], .int .i64 (maxF ax bx), .agg #[.int .u64 (IntKind.u64.wrap (ac + bc)), .bool true, .int .i64 (addHi ah al bh bl), .int .u64 (addLo al bl), .int .i64 (minF an bn), .int .i64 (maxF ax bx)], undef, undef, undef, undef, undef, undef, undef, undef, undef, undef, undef, undef], defers := [] }) (R := fun X G => MS w ga gb gr (.int .u64 ac) (.bool true) (.int .i64 ah) (.int .u64 al) (.int .i64 an) (.int .i64 ax) (.int .u64 bc) (.bool bo) (.int .i64 bh) (.int .u64 bl) (.int .i64 bn) (.int .i64 bx) (.int .u64 0) (.bool false) (.int .i64 0) (.int .u64 0) (.int .i64 0) (.int .i64 0) X ∧ X.heap[G]? = some (.cells #[.int .u64 (IntKind.u64.wrap (ac + bc)), .bool true, .int .i64 (addHi ah al bh bl), .int .u64 (addLo al bl), .int .i64 (minF an bn), .int .i64 (maxF ax bx)] 54 (0, 0)) ∧ ga ≤ G ∧ gr ≠ G) ?tail (fun HT => ?main)
    case main =>
      refine tk (i := 0) (N := 16) (v := .pointer (some ⟨ga, 0, none⟩)) rfl rfl (by kernel_rfl) (by kernel_rfl) (by kernel_rfl) (fun _ _ _ h => h) (Or.inl ⟨by rfl, fun w' hS => by (have hs := MS.s hS; go_simp)⟩) hHeld ?_
      simp only [Act.put, List.setIfInBounds_toArray, List.set_cons_zero, List.set_cons_succ]
      refine tk (i := 1) (N := 17) (v := .int .u64 ac) rfl rfl (by kernel_rfl) (by kernel_rfl) (by kernel_rfl) (fun _ _ _ h => h) (Or.inl ⟨by rfl, fun w' hS => by (have hs := MS.s hS; go_simp)⟩) hHeld ?_
      simp only [Act.put, List.setIfInBounds_toArray, List.set_cons_zero, List.set_cons_succ]
      refine tk (i := 2) (N := 18) (v := .pointer (some ⟨gb, 0, none⟩)) rfl rfl (by kernel_rfl) (by kernel_rfl) (by kernel_rfl) (fun _ _ _ h => h) (Or.inl ⟨by rfl, fun w' hS => by (have hs := MS.s hS; go_simp)⟩) hHeld ?_
      simp only [Act.put, List.setIfInBounds_toArray, List.set_cons_zero, List.set_cons_succ]
      refine tk (i := 3) (N := 19) (v := .int .u64 bc) rfl rfl (by kernel_rfl) (by kernel_rfl) (by kernel_rfl) (fun _ _ _ h => h) (Or.inl ⟨by rfl, fun w' hS => by (have hs := MS.s hS; go_simp)⟩) hHeld ?_
      simp only [Act.put, List.setIfInBounds_toArray, List.set_cons_zero, List.set_cons_succ]
      refine tk (i := 4) (N := 20) (v := .int .u64 (IntKind.u64.wrap (ac + bc))) rfl rfl (by kernel_rfl) (by kernel_rfl) (by kernel_rfl) (fun _ _ _ h => h) (Or.inl ⟨by rfl, fun w' hS => by (have hs := MS.s hS; go_simp)⟩) hHeld ?_
      simp only [Act.put, List.setIfInBounds_toArray, List.set_cons_zero, List.set_cons_succ]
      refine tk (i := 5) (N := 21) (v := .pointer (some ⟨ga, 1, none⟩)) rfl rfl (by kernel_rfl) (by kernel_rfl) (by kernel_rfl) (fun _ _ _ h => h) (Or.inl ⟨by rfl, fun w' hS => by (have hs := MS.s hS; go_simp)⟩) hHeld ?_
      simp only [Act.put, List.setIfInBounds_toArray, List.set_cons_zero, List.set_cons_succ]
      refine tk (i := 6) (N := 22) (v := .bool true) rfl rfl (by kernel_rfl) (by kernel_rfl) (by kernel_rfl) (fun _ _ _ h => h) (Or.inl ⟨by rfl, fun w' hS => by (have hs := MS.s hS; go_simp)⟩) hHeld ?_
      simp only [Act.put, List.setIfInBounds_toArray, List.set_cons_zero, List.set_cons_succ]
      refine tk (i := 7) (N := 23) (v := .bool true) rfl rfl (by kernel_rfl) (by kernel_rfl) (by kernel_rfl) (fun _ _ _ h => h) (Or.inl ⟨by rfl, fun w' hS => by (have hs := MS.s hS; go_simp)⟩) hHeld ?_
      simp only [Act.put, List.setIfInBounds_toArray, List.set_cons_zero, List.set_cons_succ]
      refine tk (i := 8) (N := 24) (v := undef) rfl rfl (by kernel_rfl) (by kernel_rfl) (by kernel_rfl) (fun _ _ _ h => h) (Or.inr ⟨by rfl, rfl⟩) hHeld ?_
      simp only [Act.put, List.setIfInBounds_toArray, List.set_cons_zero, List.set_cons_succ]
      refine tk (i := 9) (N := 25) (v := undef) rfl rfl (by kernel_rfl) (by kernel_rfl) (by kernel_rfl) (fun _ _ _ h => h) (Or.inr ⟨by rfl, rfl⟩) hHeld ?_
      simp only [Act.put, List.setIfInBounds_toArray, List.set_cons_zero, List.set_cons_succ]
      refine tk (i := 10) (N := 26) (v := .bool true) rfl rfl (by kernel_rfl) (by kernel_rfl) (by kernel_rfl) (fun _ _ _ h => h) (Or.inl ⟨by rfl, fun w' hS => by (have hs := MS.s hS; go_simp)⟩) hHeld ?_
      simp only [Act.put, List.setIfInBounds_toArray, List.set_cons_zero, List.set_cons_succ]
      refine tk (i := 11) (N := 27) (v := .pointer (some ⟨ga, 2, none⟩)) rfl rfl (by kernel_rfl) (by kernel_rfl) (by kernel_rfl) (fun _ _ _ h => h) (Or.inl ⟨by rfl, fun w' hS => by (have hs := MS.s hS; go_simp)⟩) hHeld ?_
      simp only [Act.put, List.setIfInBounds_toArray, List.set_cons_zero, List.set_cons_succ]
      refine tk (i := 12) (N := 28) (v := .agg #[.int .i64 ah, .int .u64 al]) rfl rfl (by kernel_rfl) (by kernel_rfl) (by kernel_rfl) (fun _ _ _ h => h) (Or.inl ⟨by rfl, fun w' hS => by (have hs := MS.s hS; go_simp)⟩) hHeld ?_
      simp only [Act.put, List.setIfInBounds_toArray, List.set_cons_zero, List.set_cons_succ]
      refine tk (i := 13) (N := 29) (v := .pointer (some ⟨gb, 2, none⟩)) rfl rfl (by kernel_rfl) (by kernel_rfl) (by kernel_rfl) (fun _ _ _ h => h) (Or.inl ⟨by rfl, fun w' hS => by (have hs := MS.s hS; go_simp)⟩) hHeld ?_
      simp only [Act.put, List.setIfInBounds_toArray, List.set_cons_zero, List.set_cons_succ]
      refine tk (i := 14) (N := 30) (v := .agg #[.int .i64 bh, .int .u64 bl]) rfl rfl (by kernel_rfl) (by kernel_rfl) (by kernel_rfl) (fun _ _ _ h => h) (Or.inl ⟨by rfl, fun w' hS => by (have hs := MS.s hS; go_simp)⟩) hHeld ?_
      simp only [Act.put, List.setIfInBounds_toArray, List.set_cons_zero, List.set_cons_succ]
      refine tk (i := 16) (N := 32) (v := .pointer (some ⟨ga, 4, none⟩)) rfl rfl (by kernel_rfl) (by kernel_rfl) (by kernel_rfl) (fun _ _ _ h => h) (Or.inl ⟨by rfl, fun w' hS => by (have hs := MS.s hS; go_simp)⟩) hHeld ?_
      simp only [Act.put, List.setIfInBounds_toArray, List.set_cons_zero, List.set_cons_succ]
      refine tk (i := 17) (N := 33) (v := .int .i64 an) rfl rfl (by kernel_rfl) (by kernel_rfl) (by kernel_rfl) (fun _ _ _ h => h) (Or.inl ⟨by rfl, fun w' hS => by (have hs := MS.s hS; go_simp)⟩) hHeld ?_
      simp only [Act.put, List.setIfInBounds_toArray, List.set_cons_zero, List.set_cons_succ]
      refine tk (i := 18) (N := 34) (v := .pointer (some ⟨gb, 4, none⟩)) rfl rfl (by kernel_rfl) (by kernel_rfl) (by kernel_rfl) (fun _ _ _ h => h) (Or.inl ⟨by rfl, fun w' hS => by (have hs := MS.s hS; go_simp)⟩) hHeld ?_
      simp only [Act.put, List.setIfInBounds_toArray, List.set_cons_zero, List.set_cons_succ]
      refine tk (i := 19) (N := 35) (v := .int .i64 bn) rfl rfl (by kernel_rfl) (by kernel_rfl) (by kernel_rfl) (fun _ _ _ h => h) (Or.inl ⟨by rfl, fun w' hS => by (have hs := MS.s hS; go_simp)⟩) hHeld ?_
      simp only [Act.put, List.setIfInBounds_toArray, List.set_cons_zero, List.set_cons_succ]
      refine tk (i := 20) (N := 36) (v := .func (.func 48) #[] #[]) rfl rfl (by kernel_rfl) (by kernel_rfl) (by kernel_rfl) (fun _ _ _ h => h) (Or.inl ⟨by rfl, fun w' hS => by (have hs := MS.s hS; go_simp)⟩) hHeld ?_
      simp only [Act.put, List.setIfInBounds_toArray, List.set_cons_zero, List.set_cons_succ]
      refine tk (i := 22) (N := 38) (v := .pointer (some ⟨ga, 5, none⟩)) rfl rfl (by kernel_rfl) (by kernel_rfl) (by kernel_rfl) (fun _ _ _ h => h) (Or.inl ⟨by rfl, fun w' hS => by (have hs := MS.s hS; go_simp)⟩) hHeld ?_
      simp only [Act.put, List.setIfInBounds_toArray, List.set_cons_zero, List.set_cons_succ]
      refine tk (i := 23) (N := 39) (v := .int .i64 ax) rfl rfl (by kernel_rfl) (by kernel_rfl) (by kernel_rfl) (fun _ _ _ h => h) (Or.inl ⟨by rfl, fun w' hS => by (have hs := MS.s hS; go_simp)⟩) hHeld ?_
      simp only [Act.put, List.setIfInBounds_toArray, List.set_cons_zero, List.set_cons_succ]
      refine tk (i := 24) (N := 40) (v := .pointer (some ⟨gb, 5, none⟩)) rfl rfl (by kernel_rfl) (by kernel_rfl) (by kernel_rfl) (fun _ _ _ h => h) (Or.inl ⟨by rfl, fun w' hS => by (have hs := MS.s hS; go_simp)⟩) hHeld ?_
      simp only [Act.put, List.setIfInBounds_toArray, List.set_cons_zero, List.set_cons_succ]
      refine tk (i := 25) (N := 41) (v := .int .i64 bx) rfl rfl (by kernel_rfl) (by kernel_rfl) (by kernel_rfl) (fun _ _ _ h => h) (Or.inl ⟨by rfl, fun w' hS => by (have hs := MS.s hS; go_simp)⟩) hHeld ?_
      simp only [Act.put, List.setIfInBounds_toArray, List.set_cons_zero, List.set_cons_succ]
      refine tk (i := 26) (N := 42) (v := .func (.func 49) #[] #[]) rfl rfl (by kernel_rfl) (by kernel_rfl) (by kernel_rfl) (fun _ _ _ h => h) (Or.inl ⟨by rfl, fun w' hS => by (have hs := MS.s hS; go_simp)⟩) hHeld ?_
      simp only [Act.put, List.setIfInBounds_toArray, List.set_cons_zero, List.set_cons_succ]
      refine wpAnyH_ready (rs := [15, 29]) (by kernel_rfl) (by simp) ?_
      refine AllReadyH.cons (o := { dst := some 31, op := .call { callee := .value (.func 50), args := #[.tmp 28, .tmp 30], argTypes := #[52, 52] }, type := 52, pos := "agg.go:34", after := #[{ on := 12, ground := .data }, { on := 14, ground := .data }, { on := 7, ground := .chain }], guard := none }) rfl (fun K hK => ?_) (AllReadyH.cons (o := { dst := some 7, op := .alloc 54, type := 0, pos := "agg.go:34", after := #[], guard := none }) rfl (fun K hK => ?_) AllReadyH.nil)
      · rw [if_pos (by rfl)]
        go_simp
        refine (add_c ⟨hal0, hal1⟩ ⟨hbl0, hbl1⟩).mono ?_
        rintro e w1 ⟨rfl, hb1⟩
        have hS1 := MS.step hM hb1
        refine Shut.out hK _ _ hS1 (fun hHeld => ?_)
        clear hK K
        try simp only [Act.put, List.setIfInBounds_toArray, List.set_cons_zero, List.set_cons_succ]
        refine wpAnyH_ready (rs := [21, 29]) (by kernel_rfl) (by simp) ?_
        refine AllReadyH.cons (o := { dst := some 37, op := .call { callee := .value (.func 51), args := #[.tmp 33, .tmp 35, .tmp 36], argTypes := #[2, 2, 110] }, type := 2, pos := "agg.go:34", after := #[{ on := 17, ground := .data }, { on := 19, ground := .data }, { on := 20, ground := .data }, { on := 15, ground := .chain }], guard := none }) rfl (fun K hK => ?_) (AllReadyH.cons (o := { dst := some 7, op := .alloc 54, type := 0, pos := "agg.go:34", after := #[], guard := none }) rfl (fun K hK => ?_) AllReadyH.nil)
        · rw [if_pos (by rfl)]
          go_simp
          refine (min_c an bn _).mono ?_
          rintro e w2 ⟨rfl, rfl⟩
          refine Shut.out hK _ _ hS1 (fun hHeld => ?_)
          clear hK K
          try simp only [Act.put, List.setIfInBounds_toArray, List.set_cons_zero, List.set_cons_succ]
          refine wpAnyH_ready (rs := [27, 29]) (by kernel_rfl) (by simp) ?_
          refine AllReadyH.cons (o := { dst := some 43, op := .call { callee := .value (.func 51), args := #[.tmp 39, .tmp 41, .tmp 42], argTypes := #[2, 2, 110] }, type := 2, pos := "agg.go:34", after := #[{ on := 23, ground := .data }, { on := 25, ground := .data }, { on := 26, ground := .data }, { on := 21, ground := .chain }], guard := none }) rfl (fun K hK => ?_) (AllReadyH.cons (o := { dst := some 7, op := .alloc 54, type := 0, pos := "agg.go:34", after := #[], guard := none }) rfl (fun K hK => ?_) AllReadyH.nil)
          · rw [if_pos (by rfl)]
            go_simp
            refine (max_c ax bx _).mono ?_
            rintro e w3 ⟨rfl, rfl⟩
            refine Shut.out hK _ _ hS1 (fun hHeld => ?_)
            clear hK K
            try simp only [Act.put, List.setIfInBounds_toArray, List.set_cons_zero, List.set_cons_succ]
            refine tk (i := 28) (N := 44) (v := .agg #[.int .u64 (IntKind.u64.wrap (ac + bc)), .bool true, .int .i64 (addHi ah al bh bl), .int .u64 (addLo al bl), .int .i64 (minF an bn), .int .i64 (maxF ax bx)]) rfl rfl (by kernel_rfl) (by kernel_rfl) (by kernel_rfl) (fun _ _ _ h => h) (Or.inl ⟨by rfl, fun w' hS => by (have hs := MS.s hS; go_simp)⟩) hHeld ?_
            simp only [Act.put, List.setIfInBounds_toArray, List.set_cons_zero, List.set_cons_succ]
            refine wpAnyH_ready (rs := [29]) (by kernel_rfl) (by simp) ?_
            refine AllReadyH.cons (o := { dst := some 7, op := .alloc 54, type := 0, pos := "agg.go:34", after := #[], guard := none }) rfl (fun K hK => ?_) AllReadyH.nil
            · rw [if_pos (by rfl)]
              have hS4 := MS.alloc hS1 (.cells #[.int .u64 0, .bool false, .int .i64 0, .int .u64 0, .int .i64 0, .int .i64 0] 54)
              have hz4 : (w1.alloc (.cells #[.int .u64 0, .bool false, .int .i64 0, .int .u64 0, .int .i64 0, .int .i64 0] 54)).heap[w1.heap.size]? = some (.cells #[.int .u64 0, .bool false, .int .i64 0, .int .u64 0, .int .i64 0, .int .i64 0] 54 (0, 0)) := al_new rfl
              have hge : ga ≤ w1.heap.size := (hS1).le
              have hne1 : ga ≠ w1.heap.size := Nat.ne_of_lt (blk_lt (hS1).a)
              have hne2 : gb ≠ w1.heap.size := Nat.ne_of_lt (blk_lt (hS1).b)
              have hne3 : gr ≠ w1.heap.size := Nat.ne_of_lt (blk_lt (hS1).r)
              go_simp
              refine Shut.out hK _ _ hS4 (fun hHeld => ?_)
              clear hK K
              try simp only [Act.put, List.setIfInBounds_toArray, List.set_cons_zero, List.set_cons_succ]
              generalize w1.alloc (.cells #[.int .u64 0, .bool false, .int .i64 0, .int .u64 0, .int .i64 0, .int .i64 0] 54) = w4 at hS4 hz4 hHeld ⊢
              generalize w1.heap.size = G at hz4 hge hne1 hne2 hne3 ⊢
              refine wpAnyH_ready (rs := [30]) (by kernel_rfl) (by simp) ?_
              refine AllReadyH.cons (o := { dst := none, op := .store 54 (.tmp 7) (.tmp 44), type := 0, pos := "agg.go:34", after := #[{ on := 29, ground := .data }, { on := 28, ground := .data }, { on := 27, ground := .chain }, { on := 0, ground := .phase }, { on := 1, ground := .phase }, { on := 2, ground := .phase }, { on := 3, ground := .phase }, { on := 4, ground := .phase }, { on := 5, ground := .phase }, { on := 6, ground := .phase }, { on := 7, ground := .phase }, { on := 8, ground := .phase }, { on := 9, ground := .phase }, { on := 10, ground := .phase }, { on := 11, ground := .phase }, { on := 12, ground := .phase }, { on := 13, ground := .phase }, { on := 14, ground := .phase }, { on := 15, ground := .phase }, { on := 16, ground := .phase }, { on := 17, ground := .phase }, { on := 18, ground := .phase }, { on := 19, ground := .phase }, { on := 20, ground := .phase }, { on := 21, ground := .phase }, { on := 22, ground := .phase }, { on := 23, ground := .phase }, { on := 24, ground := .phase }, { on := 25, ground := .phase }, { on := 26, ground := .phase }, { on := 27, ground := .phase }, { on := 28, ground := .phase }, { on := 29, ground := .phase }], guard := none }) rfl (fun K hK => ?_) AllReadyH.nil
              · rw [if_pos (by rfl)]
                have e7_0 : w4.cell? ⟨G, 0, none⟩ = some (.int .u64 0) := (blk_cell hz4 0).trans rfl
                have f7_0 := blk_frozen hz4 0
                have e7_1 : w4.cell? ⟨G, 1, none⟩ = some (.bool false) := (blk_cell hz4 1).trans rfl
                have f7_1 := blk_frozen hz4 1
                have e7_2 : w4.cell? ⟨G, 2, none⟩ = some (.int .i64 0) := (blk_cell hz4 2).trans rfl
                have f7_2 := blk_frozen hz4 2
                have e7_3 : w4.cell? ⟨G, 3, none⟩ = some (.int .u64 0) := (blk_cell hz4 3).trans rfl
                have f7_3 := blk_frozen hz4 3
                have e7_4 : w4.cell? ⟨G, 4, none⟩ = some (.int .i64 0) := (blk_cell hz4 4).trans rfl
                have f7_4 := blk_frozen hz4 4
                have e7_5 : w4.cell? ⟨G, 5, none⟩ = some (.int .i64 0) := (blk_cell hz4 5).trans rfl
                have f7_5 := blk_frozen hz4 5
                go_simp
                refine Shut.out hK _ _ (MS.set hS4 hne1 hne2 hne3 hge (.int .u64 (IntKind.u64.wrap (ac + bc))) (.bool true) (.int .i64 (addHi ah al bh bl)) (.int .u64 (addLo al bl)) (.int .i64 (minF an bn)) (.int .i64 (maxF ax bx))) (fun hHeld => ?_)
                clear hK K
                try simp only [Act.put, List.setIfInBounds_toArray, List.set_cons_zero, List.set_cons_succ]
                refine wpAnyH_done (by kernel_rfl) ?_ _
                exact HT _ G ⟨MS.set hS4 hne1 hne2 hne3 hge (.int .u64 (IntKind.u64.wrap (ac + bc))) (.bool true) (.int .i64 (addHi ah al bh bl)) (.int .u64 (addLo al bl)) (.int .i64 (minF an bn)) (.int .i64 (maxF ax bx)), blk_six hz4 (.int .u64 (IntKind.u64.wrap (ac + bc))) (.bool true) (.int .i64 (addHi ah al bh bl)) (.int .u64 (addLo al bl)) (.int .i64 (minF an bn)) (.int .i64 (maxF ax bx)), hge, hne3⟩
          · rw [if_pos (by rfl)]
            have hS6 := MS.alloc hS1 (.cells #[.int .u64 0, .bool false, .int .i64 0, .int .u64 0, .int .i64 0, .int .i64 0] 54)
            have hz6 : (w1.alloc (.cells #[.int .u64 0, .bool false, .int .i64 0, .int .u64 0, .int .i64 0, .int .i64 0] 54)).heap[w1.heap.size]? = some (.cells #[.int .u64 0, .bool false, .int .i64 0, .int .u64 0, .int .i64 0, .int .i64 0] 54 (0, 0)) := al_new rfl
            have hge : ga ≤ w1.heap.size := (hS1).le
            have hne1 : ga ≠ w1.heap.size := Nat.ne_of_lt (blk_lt (hS1).a)
            have hne2 : gb ≠ w1.heap.size := Nat.ne_of_lt (blk_lt (hS1).b)
            have hne3 : gr ≠ w1.heap.size := Nat.ne_of_lt (blk_lt (hS1).r)
            go_simp
            refine Shut.out hK _ _ hS6 (fun hHeld => ?_)
            clear hK K
            try simp only [Act.put, List.setIfInBounds_toArray, List.set_cons_zero, List.set_cons_succ]
            generalize w1.alloc (.cells #[.int .u64 0, .bool false, .int .i64 0, .int .u64 0, .int .i64 0, .int .i64 0] 54) = w6 at hS6 hz6 hHeld ⊢
            generalize w1.heap.size = G at hz6 hge hne1 hne2 hne3 ⊢
            refine wpAnyH_ready (rs := [27]) (by kernel_rfl) (by simp) ?_
            refine AllReadyH.cons (o := { dst := some 43, op := .call { callee := .value (.func 51), args := #[.tmp 39, .tmp 41, .tmp 42], argTypes := #[2, 2, 110] }, type := 2, pos := "agg.go:34", after := #[{ on := 23, ground := .data }, { on := 25, ground := .data }, { on := 26, ground := .data }, { on := 21, ground := .chain }], guard := none }) rfl (fun K hK => ?_) AllReadyH.nil
            · rw [if_pos (by rfl)]
              go_simp
              refine (max_c ax bx _).mono ?_
              rintro e w7 ⟨rfl, rfl⟩
              refine Shut.out hK _ _ hS6 (fun hHeld => ?_)
              clear hK K
              try simp only [Act.put, List.setIfInBounds_toArray, List.set_cons_zero, List.set_cons_succ]
              refine tk (i := 28) (N := 44) (v := .agg #[.int .u64 (IntKind.u64.wrap (ac + bc)), .bool true, .int .i64 (addHi ah al bh bl), .int .u64 (addLo al bl), .int .i64 (minF an bn), .int .i64 (maxF ax bx)]) rfl rfl (by kernel_rfl) (by kernel_rfl) (by kernel_rfl) (fun _ _ _ h => h) (Or.inl ⟨by rfl, fun w' hS => by (have hs := MS.s hS; go_simp)⟩) hHeld ?_
              simp only [Act.put, List.setIfInBounds_toArray, List.set_cons_zero, List.set_cons_succ]
              refine wpAnyH_ready (rs := [30]) (by kernel_rfl) (by simp) ?_
              refine AllReadyH.cons (o := { dst := none, op := .store 54 (.tmp 7) (.tmp 44), type := 0, pos := "agg.go:34", after := #[{ on := 29, ground := .data }, { on := 28, ground := .data }, { on := 27, ground := .chain }, { on := 0, ground := .phase }, { on := 1, ground := .phase }, { on := 2, ground := .phase }, { on := 3, ground := .phase }, { on := 4, ground := .phase }, { on := 5, ground := .phase }, { on := 6, ground := .phase }, { on := 7, ground := .phase }, { on := 8, ground := .phase }, { on := 9, ground := .phase }, { on := 10, ground := .phase }, { on := 11, ground := .phase }, { on := 12, ground := .phase }, { on := 13, ground := .phase }, { on := 14, ground := .phase }, { on := 15, ground := .phase }, { on := 16, ground := .phase }, { on := 17, ground := .phase }, { on := 18, ground := .phase }, { on := 19, ground := .phase }, { on := 20, ground := .phase }, { on := 21, ground := .phase }, { on := 22, ground := .phase }, { on := 23, ground := .phase }, { on := 24, ground := .phase }, { on := 25, ground := .phase }, { on := 26, ground := .phase }, { on := 27, ground := .phase }, { on := 28, ground := .phase }, { on := 29, ground := .phase }], guard := none }) rfl (fun K hK => ?_) AllReadyH.nil
              · rw [if_pos (by rfl)]
                have e7_0 : w6.cell? ⟨G, 0, none⟩ = some (.int .u64 0) := (blk_cell hz6 0).trans rfl
                have f7_0 := blk_frozen hz6 0
                have e7_1 : w6.cell? ⟨G, 1, none⟩ = some (.bool false) := (blk_cell hz6 1).trans rfl
                have f7_1 := blk_frozen hz6 1
                have e7_2 : w6.cell? ⟨G, 2, none⟩ = some (.int .i64 0) := (blk_cell hz6 2).trans rfl
                have f7_2 := blk_frozen hz6 2
                have e7_3 : w6.cell? ⟨G, 3, none⟩ = some (.int .u64 0) := (blk_cell hz6 3).trans rfl
                have f7_3 := blk_frozen hz6 3
                have e7_4 : w6.cell? ⟨G, 4, none⟩ = some (.int .i64 0) := (blk_cell hz6 4).trans rfl
                have f7_4 := blk_frozen hz6 4
                have e7_5 : w6.cell? ⟨G, 5, none⟩ = some (.int .i64 0) := (blk_cell hz6 5).trans rfl
                have f7_5 := blk_frozen hz6 5
                go_simp
                refine Shut.out hK _ _ (MS.set hS6 hne1 hne2 hne3 hge (.int .u64 (IntKind.u64.wrap (ac + bc))) (.bool true) (.int .i64 (addHi ah al bh bl)) (.int .u64 (addLo al bl)) (.int .i64 (minF an bn)) (.int .i64 (maxF ax bx))) (fun hHeld => ?_)
                clear hK K
                try simp only [Act.put, List.setIfInBounds_toArray, List.set_cons_zero, List.set_cons_succ]
                refine wpAnyH_done (by kernel_rfl) ?_ _
                exact HT _ G ⟨MS.set hS6 hne1 hne2 hne3 hge (.int .u64 (IntKind.u64.wrap (ac + bc))) (.bool true) (.int .i64 (addHi ah al bh bl)) (.int .u64 (addLo al bl)) (.int .i64 (minF an bn)) (.int .i64 (maxF ax bx)), blk_six hz6 (.int .u64 (IntKind.u64.wrap (ac + bc))) (.bool true) (.int .i64 (addHi ah al bh bl)) (.int .u64 (addLo al bl)) (.int .i64 (minF an bn)) (.int .i64 (maxF ax bx)), hge, hne3⟩
        · rw [if_pos (by rfl)]
          have hS9 := MS.alloc hS1 (.cells #[.int .u64 0, .bool false, .int .i64 0, .int .u64 0, .int .i64 0, .int .i64 0] 54)
          have hz9 : (w1.alloc (.cells #[.int .u64 0, .bool false, .int .i64 0, .int .u64 0, .int .i64 0, .int .i64 0] 54)).heap[w1.heap.size]? = some (.cells #[.int .u64 0, .bool false, .int .i64 0, .int .u64 0, .int .i64 0, .int .i64 0] 54 (0, 0)) := al_new rfl
          have hge : ga ≤ w1.heap.size := (hS1).le
          have hne1 : ga ≠ w1.heap.size := Nat.ne_of_lt (blk_lt (hS1).a)
          have hne2 : gb ≠ w1.heap.size := Nat.ne_of_lt (blk_lt (hS1).b)
          have hne3 : gr ≠ w1.heap.size := Nat.ne_of_lt (blk_lt (hS1).r)
          go_simp
          refine Shut.out hK _ _ hS9 (fun hHeld => ?_)
          clear hK K
          try simp only [Act.put, List.setIfInBounds_toArray, List.set_cons_zero, List.set_cons_succ]
          generalize w1.alloc (.cells #[.int .u64 0, .bool false, .int .i64 0, .int .u64 0, .int .i64 0, .int .i64 0] 54) = w9 at hS9 hz9 hHeld ⊢
          generalize w1.heap.size = G at hz9 hge hne1 hne2 hne3 ⊢
          refine wpAnyH_ready (rs := [21]) (by kernel_rfl) (by simp) ?_
          refine AllReadyH.cons (o := { dst := some 37, op := .call { callee := .value (.func 51), args := #[.tmp 33, .tmp 35, .tmp 36], argTypes := #[2, 2, 110] }, type := 2, pos := "agg.go:34", after := #[{ on := 17, ground := .data }, { on := 19, ground := .data }, { on := 20, ground := .data }, { on := 15, ground := .chain }], guard := none }) rfl (fun K hK => ?_) AllReadyH.nil
          · rw [if_pos (by rfl)]
            go_simp
            refine (min_c an bn _).mono ?_
            rintro e w10 ⟨rfl, rfl⟩
            refine Shut.out hK _ _ hS9 (fun hHeld => ?_)
            clear hK K
            try simp only [Act.put, List.setIfInBounds_toArray, List.set_cons_zero, List.set_cons_succ]
            refine wpAnyH_ready (rs := [27]) (by kernel_rfl) (by simp) ?_
            refine AllReadyH.cons (o := { dst := some 43, op := .call { callee := .value (.func 51), args := #[.tmp 39, .tmp 41, .tmp 42], argTypes := #[2, 2, 110] }, type := 2, pos := "agg.go:34", after := #[{ on := 23, ground := .data }, { on := 25, ground := .data }, { on := 26, ground := .data }, { on := 21, ground := .chain }], guard := none }) rfl (fun K hK => ?_) AllReadyH.nil
            · rw [if_pos (by rfl)]
              go_simp
              refine (max_c ax bx _).mono ?_
              rintro e w11 ⟨rfl, rfl⟩
              refine Shut.out hK _ _ hS9 (fun hHeld => ?_)
              clear hK K
              try simp only [Act.put, List.setIfInBounds_toArray, List.set_cons_zero, List.set_cons_succ]
              refine tk (i := 28) (N := 44) (v := .agg #[.int .u64 (IntKind.u64.wrap (ac + bc)), .bool true, .int .i64 (addHi ah al bh bl), .int .u64 (addLo al bl), .int .i64 (minF an bn), .int .i64 (maxF ax bx)]) rfl rfl (by kernel_rfl) (by kernel_rfl) (by kernel_rfl) (fun _ _ _ h => h) (Or.inl ⟨by rfl, fun w' hS => by (have hs := MS.s hS; go_simp)⟩) hHeld ?_
              simp only [Act.put, List.setIfInBounds_toArray, List.set_cons_zero, List.set_cons_succ]
              refine wpAnyH_ready (rs := [30]) (by kernel_rfl) (by simp) ?_
              refine AllReadyH.cons (o := { dst := none, op := .store 54 (.tmp 7) (.tmp 44), type := 0, pos := "agg.go:34", after := #[{ on := 29, ground := .data }, { on := 28, ground := .data }, { on := 27, ground := .chain }, { on := 0, ground := .phase }, { on := 1, ground := .phase }, { on := 2, ground := .phase }, { on := 3, ground := .phase }, { on := 4, ground := .phase }, { on := 5, ground := .phase }, { on := 6, ground := .phase }, { on := 7, ground := .phase }, { on := 8, ground := .phase }, { on := 9, ground := .phase }, { on := 10, ground := .phase }, { on := 11, ground := .phase }, { on := 12, ground := .phase }, { on := 13, ground := .phase }, { on := 14, ground := .phase }, { on := 15, ground := .phase }, { on := 16, ground := .phase }, { on := 17, ground := .phase }, { on := 18, ground := .phase }, { on := 19, ground := .phase }, { on := 20, ground := .phase }, { on := 21, ground := .phase }, { on := 22, ground := .phase }, { on := 23, ground := .phase }, { on := 24, ground := .phase }, { on := 25, ground := .phase }, { on := 26, ground := .phase }, { on := 27, ground := .phase }, { on := 28, ground := .phase }, { on := 29, ground := .phase }], guard := none }) rfl (fun K hK => ?_) AllReadyH.nil
              · rw [if_pos (by rfl)]
                have e7_0 : w9.cell? ⟨G, 0, none⟩ = some (.int .u64 0) := (blk_cell hz9 0).trans rfl
                have f7_0 := blk_frozen hz9 0
                have e7_1 : w9.cell? ⟨G, 1, none⟩ = some (.bool false) := (blk_cell hz9 1).trans rfl
                have f7_1 := blk_frozen hz9 1
                have e7_2 : w9.cell? ⟨G, 2, none⟩ = some (.int .i64 0) := (blk_cell hz9 2).trans rfl
                have f7_2 := blk_frozen hz9 2
                have e7_3 : w9.cell? ⟨G, 3, none⟩ = some (.int .u64 0) := (blk_cell hz9 3).trans rfl
                have f7_3 := blk_frozen hz9 3
                have e7_4 : w9.cell? ⟨G, 4, none⟩ = some (.int .i64 0) := (blk_cell hz9 4).trans rfl
                have f7_4 := blk_frozen hz9 4
                have e7_5 : w9.cell? ⟨G, 5, none⟩ = some (.int .i64 0) := (blk_cell hz9 5).trans rfl
                have f7_5 := blk_frozen hz9 5
                go_simp
                refine Shut.out hK _ _ (MS.set hS9 hne1 hne2 hne3 hge (.int .u64 (IntKind.u64.wrap (ac + bc))) (.bool true) (.int .i64 (addHi ah al bh bl)) (.int .u64 (addLo al bl)) (.int .i64 (minF an bn)) (.int .i64 (maxF ax bx))) (fun hHeld => ?_)
                clear hK K
                try simp only [Act.put, List.setIfInBounds_toArray, List.set_cons_zero, List.set_cons_succ]
                refine wpAnyH_done (by kernel_rfl) ?_ _
                exact HT _ G ⟨MS.set hS9 hne1 hne2 hne3 hge (.int .u64 (IntKind.u64.wrap (ac + bc))) (.bool true) (.int .i64 (addHi ah al bh bl)) (.int .u64 (addLo al bl)) (.int .i64 (minF an bn)) (.int .i64 (maxF ax bx)), blk_six hz9 (.int .u64 (IntKind.u64.wrap (ac + bc))) (.bool true) (.int .i64 (addHi ah al bh bl)) (.int .u64 (addLo al bl)) (.int .i64 (minF an bn)) (.int .i64 (maxF ax bx)), hge, hne3⟩
      · rw [if_pos (by rfl)]
        have hS13 := MS.drew (MS.alloc hM0 (.cells #[.int .u64 0, .bool false, .int .i64 0, .int .u64 0, .int .i64 0, .int .i64 0] 54))
        have hz13 : ((W0.alloc (.cells #[.int .u64 0, .bool false, .int .i64 0, .int .u64 0, .int .i64 0, .int .i64 0] 54)).drew).heap[W0.heap.size]? = some (.cells #[.int .u64 0, .bool false, .int .i64 0, .int .u64 0, .int .i64 0, .int .i64 0] 54 (0, 0)) := al_new rfl
        have hge : ga ≤ W0.heap.size := (hM0).le
        have hne1 : ga ≠ W0.heap.size := Nat.ne_of_lt (blk_lt (hM0).a)
        have hne2 : gb ≠ W0.heap.size := Nat.ne_of_lt (blk_lt (hM0).b)
        have hne3 : gr ≠ W0.heap.size := Nat.ne_of_lt (blk_lt (hM0).r)
        go_simp
        refine Shut.out hK _ _ hS13 (fun hHeld => ?_)
        clear hK K
        try simp only [Act.put, List.setIfInBounds_toArray, List.set_cons_zero, List.set_cons_succ]
        generalize (W0.alloc (.cells #[.int .u64 0, .bool false, .int .i64 0, .int .u64 0, .int .i64 0, .int .i64 0] 54)).drew = w13 at hS13 hz13 hHeld ⊢
        generalize W0.heap.size = G at hz13 hge hne1 hne2 hne3 ⊢
        refine wpAnyH_ready (rs := [15]) (by kernel_rfl) (by simp) ?_
        refine AllReadyH.cons (o := { dst := some 31, op := .call { callee := .value (.func 50), args := #[.tmp 28, .tmp 30], argTypes := #[52, 52] }, type := 52, pos := "agg.go:34", after := #[{ on := 12, ground := .data }, { on := 14, ground := .data }, { on := 7, ground := .chain }], guard := none }) rfl (fun K hK => ?_) AllReadyH.nil
        · rw [if_pos (by rfl)]
          go_simp
          refine (add_c ⟨hal0, hal1⟩ ⟨hbl0, hbl1⟩).mono ?_
          rintro e w14 ⟨rfl, hb14⟩
          have hS14 := MS.step hS13 hb14
          have hz14 := (hb14.block _ (blk_lt hz13)).trans hz13
          refine Shut.out hK _ _ hS14 (fun hHeld => ?_)
          clear hK K
          try simp only [Act.put, List.setIfInBounds_toArray, List.set_cons_zero, List.set_cons_succ]
          refine wpAnyH_ready (rs := [21]) (by kernel_rfl) (by simp) ?_
          refine AllReadyH.cons (o := { dst := some 37, op := .call { callee := .value (.func 51), args := #[.tmp 33, .tmp 35, .tmp 36], argTypes := #[2, 2, 110] }, type := 2, pos := "agg.go:34", after := #[{ on := 17, ground := .data }, { on := 19, ground := .data }, { on := 20, ground := .data }, { on := 15, ground := .chain }], guard := none }) rfl (fun K hK => ?_) AllReadyH.nil
          · rw [if_pos (by rfl)]
            go_simp
            refine (min_c an bn _).mono ?_
            rintro e w15 ⟨rfl, rfl⟩
            refine Shut.out hK _ _ hS14 (fun hHeld => ?_)
            clear hK K
            try simp only [Act.put, List.setIfInBounds_toArray, List.set_cons_zero, List.set_cons_succ]
            refine wpAnyH_ready (rs := [27]) (by kernel_rfl) (by simp) ?_
            refine AllReadyH.cons (o := { dst := some 43, op := .call { callee := .value (.func 51), args := #[.tmp 39, .tmp 41, .tmp 42], argTypes := #[2, 2, 110] }, type := 2, pos := "agg.go:34", after := #[{ on := 23, ground := .data }, { on := 25, ground := .data }, { on := 26, ground := .data }, { on := 21, ground := .chain }], guard := none }) rfl (fun K hK => ?_) AllReadyH.nil
            · rw [if_pos (by rfl)]
              go_simp
              refine (max_c ax bx _).mono ?_
              rintro e w16 ⟨rfl, rfl⟩
              refine Shut.out hK _ _ hS14 (fun hHeld => ?_)
              clear hK K
              try simp only [Act.put, List.setIfInBounds_toArray, List.set_cons_zero, List.set_cons_succ]
              refine tk (i := 28) (N := 44) (v := .agg #[.int .u64 (IntKind.u64.wrap (ac + bc)), .bool true, .int .i64 (addHi ah al bh bl), .int .u64 (addLo al bl), .int .i64 (minF an bn), .int .i64 (maxF ax bx)]) rfl rfl (by kernel_rfl) (by kernel_rfl) (by kernel_rfl) (fun _ _ _ h => h) (Or.inl ⟨by rfl, fun w' hS => by (have hs := MS.s hS; go_simp)⟩) hHeld ?_
              simp only [Act.put, List.setIfInBounds_toArray, List.set_cons_zero, List.set_cons_succ]
              refine wpAnyH_ready (rs := [30]) (by kernel_rfl) (by simp) ?_
              refine AllReadyH.cons (o := { dst := none, op := .store 54 (.tmp 7) (.tmp 44), type := 0, pos := "agg.go:34", after := #[{ on := 29, ground := .data }, { on := 28, ground := .data }, { on := 27, ground := .chain }, { on := 0, ground := .phase }, { on := 1, ground := .phase }, { on := 2, ground := .phase }, { on := 3, ground := .phase }, { on := 4, ground := .phase }, { on := 5, ground := .phase }, { on := 6, ground := .phase }, { on := 7, ground := .phase }, { on := 8, ground := .phase }, { on := 9, ground := .phase }, { on := 10, ground := .phase }, { on := 11, ground := .phase }, { on := 12, ground := .phase }, { on := 13, ground := .phase }, { on := 14, ground := .phase }, { on := 15, ground := .phase }, { on := 16, ground := .phase }, { on := 17, ground := .phase }, { on := 18, ground := .phase }, { on := 19, ground := .phase }, { on := 20, ground := .phase }, { on := 21, ground := .phase }, { on := 22, ground := .phase }, { on := 23, ground := .phase }, { on := 24, ground := .phase }, { on := 25, ground := .phase }, { on := 26, ground := .phase }, { on := 27, ground := .phase }, { on := 28, ground := .phase }, { on := 29, ground := .phase }], guard := none }) rfl (fun K hK => ?_) AllReadyH.nil
              · rw [if_pos (by rfl)]
                have e7_0 : w14.cell? ⟨G, 0, none⟩ = some (.int .u64 0) := (blk_cell hz14 0).trans rfl
                have f7_0 := blk_frozen hz14 0
                have e7_1 : w14.cell? ⟨G, 1, none⟩ = some (.bool false) := (blk_cell hz14 1).trans rfl
                have f7_1 := blk_frozen hz14 1
                have e7_2 : w14.cell? ⟨G, 2, none⟩ = some (.int .i64 0) := (blk_cell hz14 2).trans rfl
                have f7_2 := blk_frozen hz14 2
                have e7_3 : w14.cell? ⟨G, 3, none⟩ = some (.int .u64 0) := (blk_cell hz14 3).trans rfl
                have f7_3 := blk_frozen hz14 3
                have e7_4 : w14.cell? ⟨G, 4, none⟩ = some (.int .i64 0) := (blk_cell hz14 4).trans rfl
                have f7_4 := blk_frozen hz14 4
                have e7_5 : w14.cell? ⟨G, 5, none⟩ = some (.int .i64 0) := (blk_cell hz14 5).trans rfl
                have f7_5 := blk_frozen hz14 5
                go_simp
                refine Shut.out hK _ _ (MS.set hS14 hne1 hne2 hne3 hge (.int .u64 (IntKind.u64.wrap (ac + bc))) (.bool true) (.int .i64 (addHi ah al bh bl)) (.int .u64 (addLo al bl)) (.int .i64 (minF an bn)) (.int .i64 (maxF ax bx))) (fun hHeld => ?_)
                clear hK K
                try simp only [Act.put, List.setIfInBounds_toArray, List.set_cons_zero, List.set_cons_succ]
                refine wpAnyH_done (by kernel_rfl) ?_ _
                exact HT _ G ⟨MS.set hS14 hne1 hne2 hne3 hge (.int .u64 (IntKind.u64.wrap (ac + bc))) (.bool true) (.int .i64 (addHi ah al bh bl)) (.int .u64 (addLo al bl)) (.int .i64 (minF an bn)) (.int .i64 (maxF ax bx)), blk_six hz14 (.int .u64 (IntKind.u64.wrap (ac + bc))) (.bool true) (.int .i64 (addHi ah al bh bl)) (.int .u64 (addLo al bl)) (.int .i64 (minF an bn)) (.int .i64 (maxF ax bx)), hge, hne3⟩
    case tail =>
      rintro X G ⟨hX, hO, hleG, hne⟩
      refine NoPanic.normal ?_
      dsimp only
      have o0 : X.cell? ⟨G, 0, none⟩ = some (.int .u64 (IntKind.u64.wrap (ac + bc))) := (blk_cell hO 0).trans rfl
      have o1 : X.cell? ⟨G, 1, none⟩ = some (.bool true) := (blk_cell hO 1).trans rfl
      have o2 : X.cell? ⟨G, 2, none⟩ = some (.int .i64 (addHi ah al bh bl)) := (blk_cell hO 2).trans rfl
      have o3 : X.cell? ⟨G, 3, none⟩ = some (.int .u64 (addLo al bl)) := (blk_cell hO 3).trans rfl
      have o4 : X.cell? ⟨G, 4, none⟩ = some (.int .i64 (minF an bn)) := (blk_cell hO 4).trans rfl
      have o5 : X.cell? ⟨G, 5, none⟩ = some (.int .i64 (maxF ax bx)) := (blk_cell hO 5).trans rfl
      have r0 : X.cell? ⟨gr, 0, none⟩ = some (.int .u64 0) := (blk_cell hX.r 0).trans rfl
      have r1 : X.cell? ⟨gr, 1, none⟩ = some (.bool false) := (blk_cell hX.r 1).trans rfl
      have r2 : X.cell? ⟨gr, 2, none⟩ = some (.int .i64 0) := (blk_cell hX.r 2).trans rfl
      have r3 : X.cell? ⟨gr, 3, none⟩ = some (.int .u64 0) := (blk_cell hX.r 3).trans rfl
      have r4 : X.cell? ⟨gr, 4, none⟩ = some (.int .i64 0) := (blk_cell hX.r 4).trans rfl
      have r5 : X.cell? ⟨gr, 5, none⟩ = some (.int .i64 0) := (blk_cell hX.r 5).trans rfl
      have q0 := blk_frozen hO 0
      have q1 := blk_frozen hO 1
      have p0 := blk_frozen hX.r 0
      have p1 := blk_frozen hX.r 1
      have p2 := blk_frozen hX.r 2
      have p3 := blk_frozen hX.r 3
      have p4 := blk_frozen hX.r 4
      have p5 := blk_frozen hX.r 5
      have a0 : X.cell? ⟨ga, 0, none⟩ = some (.int .u64 ac) := (blk_cell hX.a 0).trans rfl
      have hr2 : ((X.setCell ⟨G, 0, none⟩ (.int .u64 18446744073709551615)).setCell ⟨G, 1, none⟩ (.bool true)).heap[gr]? = some (.cells #[.int .u64 0, .bool false, .int .i64 0, .int .u64 0, .int .i64 0, .int .i64 0] 54 (0, 0)) := (Below.heap_setCell _ _ _ _ hne).trans ((Below.heap_setCell _ _ _ _ hne).trans hX.r)
      have hgG : ga ≤ G := hleG
      have hbe := hX.be
      have hrr := hX.r
      have hgr : ga ≤ gr := hgrr
      clear hX hO
      rcases HS.out with ⟨hd, rfl⟩ | ⟨hd, _, rfl⟩ | ⟨hd, hbo, _⟩
      · clear HS
        go_wp2
        refine bodyPost_ret (results_cell_row rfl _ _ gr 54 #[.int .u64 18446744073709551615, .bool true, .int .i64 (addHi ah al bh bl), .int .u64 (addLo al bl), .int .i64 (minF an bn), .int .i64 (maxF ax bx)] (0, 0) _ rfl (blk_six hr2 _ _ _ _ _ _) Try.underlying54 rfl (by kernel_rfl)) rfl ?_
        exact ⟨rfl, by rw [HGA.out]; exact below_six ((hbe.setCell (p := ⟨G, 0, none⟩) hgG _).setCell (p := ⟨G, 1, none⟩) hgG _) hgr _ _ _ _ _ _⟩
      · clear HS
        go_wp2
        refine bodyPost_ret (results_cell_row rfl _ _ gr 54 #[.int .u64 18446744073709551615, .bool true, .int .i64 (addHi ah al bh bl), .int .u64 (addLo al bl), .int .i64 (minF an bn), .int .i64 (maxF ax bx)] (0, 0) _ rfl (blk_six hr2 _ _ _ _ _ _) Try.underlying54 rfl (by kernel_rfl)) rfl ?_
        exact ⟨rfl, by rw [HGA.out]; exact below_six ((hbe.setCell (p := ⟨G, 0, none⟩) hgG _).setCell (p := ⟨G, 1, none⟩) hgG _) hgr _ _ _ _ _ _⟩
      · cases hbo
theorem merge_g {w : World} {a b : Ag} (ha : a.ok) (hb : b.ok) : Calls Try.prog 27 #[a.v, b.v] w fun e w' => e = .returned (mergeF a b).v ∧ Below w.heap.size w w' := by
  cases h : a.o
  · exact merge_c ha hb h
  · exact merge_t ha hb h
/-- Whether what isn't nothing may be known. -/
def rightF (a : Ag) : Bool := decide (a.mn ≤ a.mx) && (!a.o || decide (a.c = 18446744073709551615))
/-- Something, in its bounds. -/
structure Gd (a : Ag) : Prop where
  c0 : a.c ≠ 0
  rt : rightF a = true
  ok : a.ok
  mn : -9223372036854775808 ≤ a.mn ∧ a.mn < 9223372036854775808
  mx : -9223372036854775808 ≤ a.mx ∧ a.mx < 9223372036854775808
theorem w64_rng (x : Int) : -9223372036854775808 ≤ wrap64 x ∧ wrap64 x < 9223372036854775808 := by unfold wrap64; omega
theorem Gd.mm {a : Ag} (h : Gd a) : a.mn ≤ a.mx := by
  have := h.rt
  unfold rightF at this
  rw [Bool.and_eq_true] at this
  exact of_decide_eq_true this.1
theorem Gd.ov {a : Ag} (h : Gd a) (ho : a.o = true) : a.c = 18446744073709551615 := by
  have := h.rt
  unfold rightF at this
  rw [Bool.and_eq_true, ho] at this
  simpa using this.2
theorem Gd.merge {a b : Ag} (ha : Gd a) (hb : Gd b) : Gd (mergeF a b) := by
  have h1 := ha.mm
  have h2 := hb.mm
  have h3 := ha.mn
  have h4 := ha.mx
  have h5 := hb.mn
  have h6 := hb.mx
  have hc := ha.ok.c
  have hd := hb.ok.c
  have hc0 := ha.c0
  have m1 : minF a.mn b.mn ≤ maxF a.mx b.mx := by unfold minF maxF; split <;> split <;> omega
  have m2 : -9223372036854775808 ≤ minF a.mn b.mn ∧ minF a.mn b.mn < 9223372036854775808 := by unfold minF; split <;> omega
  have m3 : -9223372036854775808 ≤ maxF a.mx b.mx ∧ maxF a.mx b.mx < 9223372036854775808 := by unfold maxF; split <;> omega
  have hl : 0 ≤ addLo a.lo b.lo ∧ addLo a.lo b.lo < 18446744073709551616 := by unfold addLo; omega
  unfold mergeF
  rw [if_neg ha.c0, if_neg hb.c0]
  split
  · exact ⟨by simp, by simp [rightF, m1], ⟨by simp, w64_rng _, hl⟩, m2, m3⟩
  · rename_i hn
    have ho : (a.o || b.o) = false := by
      cases h : (a.o || b.o)
      · rfl
      · exact absurd (.inr h) hn
    have hw : ¬ IntKind.u64.wrap (a.c + b.c) < a.c := fun h => hn (.inl h)
    rw [ho]
    have hr := (IntKind.wrap_u64 (a.c + b.c))
    refine ⟨?_, by simp [rightF, m1], ⟨?_, w64_rng _, hl⟩, m2, m3⟩
    · simp only
      omega
    · simp only
      rw [hr]
      omega
set_option maxHeartbeats 1000000 in
set_option maxRecDepth 100000 in
theorem right_g {a : Ag} {w : World} (h0 : a.c ≠ 0) : Calls Try.prog 81 #[a.v] w fun e w' => e = .returned (.bool (rightF a)) ∧ Below w.heap.size w w' := by
  obtain ⟨ac, ao, ah, al, an, ax⟩ := a
  simp only at h0
  have h1 : (ac == 0) = false := beq_eq_false_iff_ne.2 h0
  have hB := (Below.refl w.heap.size w).alloc (Nat.le_refl _) (.cells #[.int .u64 ac, .bool ao, .int .i64 ah, .int .u64 al, .int .i64 an, .int .i64 ax] 54)
  unfold Ag.v rightF
  simp only
  rcases h2 : decide (an ≤ ax)
  · go_enter Try.func81, Try.ntmps81
    go_wp2
    go_ret
    exact ⟨by simp, hB⟩
  · cases ao
    · go_enter Try.func81, Try.ntmps81
      go_wp2
      go_ret
      exact ⟨by simp, hB⟩
    · have h3 : (ac == 18446744073709551615) = decide (ac = 18446744073709551615) := by
        by_cases h : ac = 18446744073709551615 <;> simp [h]
      rcases h4 : decide (ac = 18446744073709551615)
      · rw [h4] at h3
        go_enter Try.func81, Try.ntmps81
        go_wp2
        go_ret
        exact ⟨by simp, hB⟩
      · rw [h4] at h3
        go_enter Try.func81, Try.ntmps81
        go_wp2
        go_ret
        exact ⟨by simp, hB⟩
theorem right_gd {a : Ag} {w : World} (h : Gd a) : Calls Try.prog 81 #[a.v] w fun e w' => e = .returned (.bool true) ∧ Below w.heap.size w w' := by
  have := right_g (a := a) (w := w) h.c0
  rwa [h.rt] at this
end Go.Proofs.Ytoikaegohkolkaa.Top
