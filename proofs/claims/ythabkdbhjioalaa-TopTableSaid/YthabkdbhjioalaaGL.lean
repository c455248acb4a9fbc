/-
  A row of pairs is written; conditions: those that each theorem states.
-/
import Derived.Test.YthabkdbhjioalaaGK
import Derived.Deep.DeepCutAuto
import Derived.WalkMore
namespace Go.Proofs.Ythabkdbhjioalaa.Top
set_option linter.unusedSimpArgs false
set_option linter.unusedVariables false
open Go.RowKit Go.Proofs.YthabkdbhjioalaaW.PrintWords Go.Proofs.YthabkdbhjioalaaW.PrintLast Go.Proofs.YthabkdbhjioalaaW.PrintMore Go.Proofs.Ythabkdbhjioalaa.Plain Go.Proofs.Ythabkdbhjioalaa.Fns
/-- How long a front a key has of the key ahead of it, at a place of a row. -/
def comN (i : Nat) (last k : List Int) : Nat := if i % 8 = 0 then 0 else comF last k
theorem comN_le (i : Nat) (last k : List Int) : comN i last k ≤ k.length := by
  unfold comN
  split
  · omega
  · exact (comF_le last k).2
def pairB (i : Nat) (last k v : List Int) : List Int := sh (comN i last k) ++ sh (k.length - comN i last k) ++ sh v.length ++ k.drop (comN i last k) ++ v
/-- A row's bytes, from place i on, behind key 'last'. -/
def rowB : Nat → List Int → List (List Int × List Int) → List Int
  | _, _, [] => []
  | i, last, x :: r => pairB i last x.1 x.2 ++ rowB (i + 1) x.1 r
theorem rowB_app : ∀ (xs : List (List Int × List Int)) (i : Nat) (last : List Int) (x : List Int × List Int), rowB i last (xs ++ [x]) = rowB i last xs ++ pairB (i + xs.length) ((xs.map Prod.fst).getLastD last) x.1 x.2
  | [], i, last, x => by simp [rowB]
  | y :: xs, i, last, x => by
    rw [List.cons_append, rowB, rowB_app xs (i + 1) y.1 x, rowB, List.append_assoc]
    congr 3
    · simp; omega
    · cases xs with
      | nil => simp
      | cons z xs => simp [List.getLastD]
def Pr.kv (p : Pr) : List Int × List Int := (p.k, p.v)
theorem rowB_pre : ∀ (xs ys : List (List Int × List Int)) (i : Nat) (last : List Int), (rowB i last xs).length ≤ (rowB i last (xs ++ ys)).length
  | [], _, _, _ => by simp [rowB]
  | x :: xs, ys, i, last => by
    have := rowB_pre xs ys (i + 1) x.1
    simp [rowB]
    omega
/-- The key ahead of place j. -/
def lastK (ps : List Pr) (j : Nat) : List Int := (((ps.take j).map Pr.kv).map Prod.fst).getLastD []
theorem lastK_succ (ps : List Pr) {j : Nat} (hj : j < ps.length) : lastK ps (j + 1) = ps[j].k := by
  unfold lastK
  rw [List.take_add_one, List.getElem?_eq_getElem hj, List.map_append, List.map_append, Option.toList_some]
  simp [Pr.kv]
theorem rowB_take (ps : List Pr) {j : Nat} (hj : j < ps.length) : rowB 0 [] ((ps.take (j + 1)).map Pr.kv) = rowB 0 [] ((ps.take j).map Pr.kv) ++ pairB j (lastK ps j) ps[j].k ps[j].v := by
  rw [List.take_add_one, List.getElem?_eq_getElem hj, List.map_append, Option.toList_some, List.map_singleton, rowB_app]
  congr 2
  simp; omega
theorem run_arr3 (w : World) (a b c : Value) : (Instr.index 111 (.agg #[a, b, c]) (.int .i64 0)).run Try.prog w = .ok a w ∧ (Instr.index 111 (.agg #[a, b, c]) (.int .i64 1)).run Try.prog w = .ok b w ∧ (Instr.index 111 (.agg #[a, b, c]) (.int .i64 2)).run Try.prog w = .ok c w := by
  refine ⟨?_, ?_, ?_⟩ <;> simp [Instr.index, run_underlying Try.underlying111, asIntOf, go_sem]
theorem box_grown {W W3 : World} {base b n sz : Nat} {cs : Array Value} {t e : TypeId} {v : Value} {xs : List Value} (h : W.heap[b]? = some (.cells cs t (0, 0))) (hown : W.ownsRow base e sz v n xs) (hg : W.grownBy W3 v.ownBlock) (hne : t ≠ e := by decide) : W3.heap[b]? = some (.cells cs t (0, 0)) := by
  refine (hg.block b (blk_lt h) (fun hb => ?_)).trans h
  obtain ⟨cs, hc⟩ := own_typed hown b hb.symm
  rw [h] at hc
  simp only [Option.some.injEq, Obj.cells.injEq] at hc
  exact hne hc.2.1
theorem box2 {W : World} {e : Nat} {u v : Value} {t : TypeId} (h : W.heap[e]? = some (.cells #[u, v] t (0, 0))) : W.cell? ⟨e, 0, none⟩ = some u ∧ W.cell? ⟨e, 1, none⟩ = some v := ⟨(blk_cell h 0).trans rfl, (blk_cell h 1).trans rfl⟩
set_option maxRecDepth 100000 in
set_option maxHeartbeats 2000000 in
theorem bwrow_c {w : World} {R : Option Addr} {c : Nat} {ps : List Pr} (h : PRow w R ps) (hl : ∀ p ∈ ps, p.k.length ≤ 4096 ∧ p.v.length ≤ 4096) (hn : ps.length ≤ 4096) (hs : Srt (ps.map Pr.k)) (hT : (rowB 0 [] (ps.map Pr.kv)).length ≤ 1000000) :
    Calls Try.prog 33 #[.slice R ps.length c] w fun e w' => ∃ v, e = .returned (.tuple #[v, .int .i64 0]) ∧ w'.ownsRow w.heap.size 5 1 v (rowB 0 [] (ps.map Pr.kv)).length (nums .u8 (rowB 0 [] (ps.map Pr.kv))) ∧ Below w.heap.size w w' := by
  have hi := bright_c (c := c) h hl hn hs
  have H := Aside0.mk h
  have HL := Aside0.mk hl
  have HT := Aside0.mk hT
  clear h hl hs hT
  go_enter Try.func33, Try.ntmps33
  go_wp2_with (first | (refine hi.mono ?_; rintro e w2 ⟨rfl, hb⟩) | fail)
  clear hi
  go_loopw [5, 18] (fun o i wr => ∃ j : Nat, j ≤ ps.length ∧ i = .int .i64 j ∧ wr.ownsRow w.heap.size 5 1 o (rowB 0 [] ((ps.take j).map Pr.kv)).length (nums .u8 (rowB 0 [] ((ps.take j).map Pr.kv))) ∧ Below w.heap.size w wr) (fun _ i _ => ps.length - (intOf i).toNat)
  case atStart => exact ⟨0, by omega, rfl, nil_own _ _, hb⟩
  case round =>
    obtain ⟨j, hj, rfl, ho, hB⟩ := hrel
    by_cases hlt : j < ps.length
    · have t1 : decide (j < ps.length) = true := decide_eq_true hlt
      obtain ⟨b, rfl, x0, x1⟩ := (H.out.below hB).at_ j hlt
      have hrd := H.out.rd _ (List.getElem_mem hlt)
      obtain ⟨l1, l2⟩ := HL.out _ (List.getElem_mem hlt)
      have htk := rowB_take ps hlt
      have hpre : (rowB 0 [] ((ps.take (j + 1)).map Pr.kv)).length ≤ 1000000 := by
        have := rowB_pre ((ps.take (j + 1)).map Pr.kv) ((ps.drop (j + 1)).map Pr.kv) 0 []
        rw [← List.map_append, List.take_append_drop] at this
        exact Nat.le_trans this HT.out
      have hprev : j % 8 ≠ 0 → ∃ (q : Pr), 1 ≤ j ∧ lastK ps j = q.k ∧ q.rd wr ∧ q.k.length ≤ 4096 ∧ wr.cell? ⟨b, (j - 1) * 2, none⟩ = some (.slice (some q.A) q.k.length q.c) := fun hm => by
        obtain ⟨i, rfl⟩ : ∃ i, j = i + 1 := ⟨j - 1, by omega⟩
        obtain ⟨b', hbb, y0, _⟩ := (H.out.below hB).at_ i (by omega)
        obtain rfl : b = b' := by simpa using hbb
        exact ⟨ps[i], by omega, lastK_succ ps (by omega), (H.out.below hB).rd _ (List.getElem_mem _), (HL.out _ (List.getElem_mem _)).1, y0⟩
      generalize ps[j] = p at *
      generalize lastK ps j = lk at *
      obtain ⟨pA, pk, pc, pB, pv, pd⟩ := p
      simp only at x0 x1 l1 l2 htk
      obtain ⟨rk, kc, rv, vc⟩ := hrd
      simp only at rk kc rv vc
      generalize hO : rowB 0 [] ((ps.take j).map Pr.kv) = O at *
      rw [htk] at hpre
      have hn8 := comN_le j lk pk
      generalize hnn : comN j lk pk = n at *
      obtain ⟨w3, hw3⟩ : ∃ w3, wr.alloc (.cells #[.slice (some pA) pk.length pc, .slice (some pB) pv.length pd] 75) = w3 := ⟨_, rfl⟩
      have hb3 : Below wr.heap.size wr w3 := by rw [← hw3]; exact (Below.refl _ _).alloc (Nat.le_refl _) _
      have hN3 : w3.heap[wr.heap.size]? = some (.cells #[.slice (some pA) pk.length pc, .slice (some pB) pv.length pd] 75 (0, 0)) := by rw [← hw3]; exact al_new rfl
      have HN3 := Aside0.mk hN3
      have HB3 := Aside0.mk hb3
      have HO := Aside0.mk ho
      have HTK := Aside0.mk htk
      have HPRE := Aside0.mk hpre
      have HW3 := Aside0.mk hw3
      have HNN := Aside0.mk hnn
      have HPV := Aside0.mk hprev
      have HRK := Aside0.mk rk
      have HRV := Aside0.mk rv
      clear ho htk hpre hw3 hnn hprev rk rv hN3 hb3
      go_upto_if 25 with fail
      rw [HW3.out]
      go_cut [8] (fun s8 W => s8 = .int .i64 n ∧ Below wr.heap.size wr W ∧ W.heap[wr.heap.size]? = some (.cells #[.slice (some pA) pk.length pc, .slice (some pB) pv.length pd] 75 (0, 0)))
      case first =>
        by_cases hm : j % 8 = 0
        · have t2 : decide (0 < ((j : Int) % 8)) = false := decide_eq_false (by omega)
          have hn0 : n = 0 := by rw [← HNN.out]; simp [comN, hm]
          go_wp2_with fail
          go_meet
          case rel => exact ⟨by rw [hn0]; rfl, HB3.out, HN3.out⟩
        · have t2 : decide (0 < ((j : Int) % 8)) = true := decide_eq_true (by omega)
          obtain ⟨q, hj1, hlk, hq, hql, hqc⟩ := HPV.out hm
          obtain ⟨i, hi⟩ : ∃ i, i = j - 1 := ⟨_, rfl⟩
          rw [← hi] at hqc
          have s0 : (j : Int) - 1 = (i : Int) := by omega
          have b0 : (0 : Int) ≤ (i : Int) := by omega
          have b1 : (i : Int) < (ps.length : Int) := by omega
          have hcn : comF q.k pk = n := by rw [← HNN.out, hlk]; simp [comN, hm]
          have hb4 : Below wr.heap.size wr w3.drew := below_drew HB3.out
          have hcm := common_c (w := w3.drew) (hq.k.below hb4) hq.kc (HRK.out.below (bdrew (hB.trans (HB3.out.mono hB.size)))) kc (by omega)
          rw [hcn] at hcm
          have z0 : w3.cell? ⟨wr.heap.size, 0, none⟩ = some (.slice (some pA) pk.length pc) := (blk_cell HN3.out 0).trans rfl
          have z1 : w3.cell? ⟨b, i * 2, none⟩ = some (.slice (some q.A) q.k.length q.c) := cell_below HB3.out hqc
          have HCM := Aside0.mk hcm
          clear hcm hi hj1 hlk hq hqc hcn hb4 x0 x1
          go_wp2_with fail
          have s1 : IntKind.i64.wrap (i : Int) = (i : Int) := by rw [IntKind.wrap_i64]; omega
          have s2 : wrap64 (i : Int) = (i : Int) := by unfold wrap64; omega
          have s3 : IntKind.i64.wrap ((j : Int) - 1) = (i : Int) := by rw [s0, s1]
          have s4 : wrap64 ((j : Int) - 1) = (i : Int) := by rw [s0, s2]
          go_region_held3 (fun w' => w'.cell? ⟨b, i * 2, none⟩ = some (.slice (some q.A) q.k.length q.c) ∧ w'.cell? ⟨wr.heap.size, 0, none⟩ = some (.slice (some pA) pk.length pc)) (go_keep) (first | (go_at_call 55; refine HCM.out.mono ?_; rintro e _ ⟨rfl, nd, rfl⟩))
          clear s0 s1 s2 s3 s4
          go_wp2_with fail
          go_meet
          case rel => exact ⟨rfl, bdrewN HB3.out, HN3.out⟩
      case rest =>
        obtain ⟨rfl, hBc, hNc⟩ := hcut
        have z0 : wc.cell? ⟨wr.heap.size, 0, none⟩ = some (.slice (some pA) pk.length pc) := (blk_cell hNc 0).trans rfl
        have z1 : wc.cell? ⟨wr.heap.size, 1, none⟩ = some (.slice (some pB) pv.length pd) := (blk_cell hNc 1).trans rfl
        have s0 : (pk.length : Int) - (n : Int) = ((pk.length - n : Nat) : Int) := by omega
        go_wp2_with fail
        clear s0 z0 z1
        have hB2 := hB.trans (hBc.mono hB.size)
        have HO2 := Aside0.mk (own_below HO.out hBc)
        clear hBc
        generalize hE : wr.heap.size = ew at *
        generalize hmm : pk.length - n = m at *
        have HE := Aside0.mk hE
        have HMM := Aside0.mk hmm
        have l3 : m ≤ 4096 := by omega
        have l4 : n ≤ 4096 := by omega
        clear hE hmm
        go_loopw [5, 45] (fun o i W => ∃ q : Nat, q ≤ 3 ∧ i = .int .i64 q ∧ W.ownsRow w.heap.size 5 1 o (O ++ (([sh n, sh m, sh pv.length]).take q).flatten).length (nums .u8 (O ++ (([sh n, sh m, sh pv.length]).take q).flatten)) ∧ Below w.heap.size w W ∧ W.heap[ew]? = some (.cells #[.slice (some pA) pk.length pc, .slice (some pB) pv.length pd] 75 (0, 0))) (fun _ i _ => 3 - (intOf i).toNat)
        case atStart => exact ⟨0, by omega, rfl, by simpa using HO2.out, hB2, hNc⟩
        case round =>
          obtain ⟨q, hq, rfl, hoq, hBq, hNq⟩ := hrel
          have hbl : (O ++ (([sh n, sh m, sh pv.length]).take q).flatten).length ≤ 1100000 := by
            have e1 : (sh n).length ≤ 3 := sh_length_le 2 n (by omega)
            have e2 : (sh m).length ≤ 3 := sh_length_le 2 m (by omega)
            have e3 : (sh pv.length).length ≤ 3 := sh_length_le 2 _ (by omega)
            have e4 := HPRE.out
            rw [List.length_append] at e4 ⊢
            rcases (by omega : q = 0 ∨ q = 1 ∨ q = 2 ∨ q = 3) with rfl | rfl | rfl | rfl <;> simp <;> omega
          have HOQ := Aside0.mk hoq
          clear hoq
          by_cases hq3 : q < 3
          · rcases (by omega : q = 0 ∨ q = 1 ∨ q = 2) with rfl | rfl | rfl
            · have hix : ∀ W : World, (Instr.index 111 (.agg #[.int .i64 (n : Nat), .int .i64 (m : Nat), .int .i64 (pv.length : Nat)]) (.int .i64 0)).run Try.prog W = .ok (.int .i64 (n : Nat)) W := fun W => (run_arr3 W _ _ _).1
              have hsc := short_c (w := wr) (u := n) (by omega)
              have e6 : IntKind.u64.wrap ((n : Nat) : Int) = ((n : Nat) : Int) := by rw [IntKind.wrap_u64]; omega
              go_wp2_with (first
                | (go_at_call 56; refine hsc.mono ?_; rintro e w5 ⟨sv, rfl, hso, hsb⟩; obtain ⟨A5, c5, rfl, r5, hc5, hn5, _⟩ := own_form hso; have ho5 := own_below HOQ.out hsb; have hs5 := Nat.le_trans hBq.size hsb.size; have hN5 := (hsb.block _ (blk_lt hNq)).trans hNq)
                | (at_builtin; refine wpList_append_bytes rfl _ _ rfl rfl rfl ho5 r5 hn5 (by have := sh_length_le 2 (n) (by omega); omega) hs5 ?_; intro v6 w6 ho6 hg6 hat6)
                | fail)
              go_roundw
              case rel => exact ⟨1, by omega, by rfl, by rw [List.append_assoc] at ho6; simpa using ho6, AppTo.below (r := []) hg6 (hBq.trans (hsb.mono hBq.size)) ho5 hs5, box_grown hN5 ho5 hg6⟩
              case measure => simp [intOf]
            · have hix : ∀ W : World, (Instr.index 111 (.agg #[.int .i64 (n : Nat), .int .i64 (m : Nat), .int .i64 (pv.length : Nat)]) (.int .i64 1)).run Try.prog W = .ok (.int .i64 (m : Nat)) W := fun W => (run_arr3 W _ _ _).2.1
              have hsc := short_c (w := wr) (u := m) (by omega)
              have e6 : IntKind.u64.wrap ((m : Nat) : Int) = ((m : Nat) : Int) := by rw [IntKind.wrap_u64]; omega
              go_wp2_with (first
                | (go_at_call 56; refine hsc.mono ?_; rintro e w5 ⟨sv, rfl, hso, hsb⟩; obtain ⟨A5, c5, rfl, r5, hc5, hn5, _⟩ := own_form hso; have ho5 := own_below HOQ.out hsb; have hs5 := Nat.le_trans hBq.size hsb.size; have hN5 := (hsb.block _ (blk_lt hNq)).trans hNq)
                | (at_builtin; refine wpList_append_bytes rfl _ _ rfl rfl rfl ho5 r5 hn5 (by have := sh_length_le 2 (m) (by omega); omega) hs5 ?_; intro v6 w6 ho6 hg6 hat6)
                | fail)
              go_roundw
              case rel => exact ⟨2, by omega, by rfl, by rw [List.append_assoc] at ho6; simpa using ho6, AppTo.below (r := []) hg6 (hBq.trans (hsb.mono hBq.size)) ho5 hs5, box_grown hN5 ho5 hg6⟩
              case measure => simp [intOf]
            · have hix : ∀ W : World, (Instr.index 111 (.agg #[.int .i64 (n : Nat), .int .i64 (m : Nat), .int .i64 (pv.length : Nat)]) (.int .i64 2)).run Try.prog W = .ok (.int .i64 (pv.length : Nat)) W := fun W => (run_arr3 W _ _ _).2.2
              have hsc := short_c (w := wr) (u := pv.length) (by omega)
              have e6 : IntKind.u64.wrap ((pv.length : Nat) : Int) = ((pv.length : Nat) : Int) := by rw [IntKind.wrap_u64]; omega
              go_wp2_with (first
                | (go_at_call 56; refine hsc.mono ?_; rintro e w5 ⟨sv, rfl, hso, hsb⟩; obtain ⟨A5, c5, rfl, r5, hc5, hn5, _⟩ := own_form hso; have ho5 := own_below HOQ.out hsb; have hs5 := Nat.le_trans hBq.size hsb.size; have hN5 := (hsb.block _ (blk_lt hNq)).trans hNq)
                | (at_builtin; refine wpList_append_bytes rfl _ _ rfl rfl rfl ho5 r5 hn5 (by have := sh_length_le 2 (pv.length) (by omega); omega) hs5 ?_; intro v6 w6 ho6 hg6 hat6)
                | fail)
              go_roundw
              case rel => exact ⟨3, by omega, by rfl, by rw [List.append_assoc] at ho6; simpa using ho6, AppTo.below (r := []) hg6 (hBq.trans (hsb.mono hBq.size)) ho5 hs5, box_grown hN5 ho5 hg6⟩
              case measure => simp [intOf]
          · obtain rfl : q = 3 := by omega
            have z0 : wr.cell? ⟨ew, 0, none⟩ = some (.slice (some pA) pk.length pc) := (blk_cell hNq 0).trans rfl
            have z1 : wr.cell? ⟨ew, 1, none⟩ = some (.slice (some pB) pv.length pd) := (blk_cell hNq 1).trans rfl
            go_wp2_with fail
            have hBd : Below w.heap.size w wr.drew := bdrew hBq
            have hk7 := cutA_rd (i := n) (HRK.out.below hBd) kc
            have hk7l : (pk.drop n).length = m := by rw [List.length_drop]; exact HMM.out
            have ho7 := own_below HOQ.out (below_drew (Below.refl wr.heap.size wr))
            have hN7 : wr.drew.heap[ew]? = some (.cells #[.slice (some pA) pk.length pc, .slice (some pB) pv.length pd] 75 (0, 0)) := hNq
            have q1 : ∀ W : World, (Instr.slice 23 (.slice (some pA) pk.length pc) (some (.int .i64 n)) none none).run Try.prog W = .ok (.slice (some (cutA pA n pc)) m (pc - n)) W := fun W => by rw [← HMM.out]; exact cut_lo pA pk.length pc n n rfl hn8 W
            have HK7 := Aside0.mk hk7
            have HK7L := Aside0.mk hk7l
            have HO7 := Aside0.mk ho7
            clear hk7 hk7l ho7
            go_region_held3 (fun w' => w'.cell? ⟨ew, 0, none⟩ = some (.slice (some pA) pk.length pc) ∧ w'.cell? ⟨ew, 1, none⟩ = some (.slice (some pB) pv.length pd)) (first | (with_reducible exact box2 (by assumption)) | go_keep) (first
              | (refine step_append_bytes rfl _ _ (by rfl) (by rfl) (by rw [HK7L.out]; rfl) HO7.out HK7.out (fun h => by cases h) (by rw [HK7L.out]; omega) hBd.size ?_
                 intro v8 w8 ho8 hg8 hat8
                 have hN8 := box_grown hN7 HO7.out hg8
                 have hB8 := AppTo.below (r := []) hg8 hBd HO7.out hBd.size
                 have HO8 := Aside0.mk ho8
                 have HV8 := Aside0.mk (HRV.out.below hB8)
                 clear ho8)
              | (refine step_append_bytes rfl _ _ (by rfl) (by rfl) (by rfl) HO8.out HV8.out (fun h => by cases h) (by rw [List.length_append, HK7L.out]; omega) hB8.size ?_
                 intro v9 w9 ho9 hg9 hat9
                 have hN9 := box_grown hN8 HO8.out hg9
                 have hB9 := AppTo.below (r := []) hg9 hB8 HO8.out hB8.size))
            have hfin : O ++ (([sh n, sh m, sh pv.length]).take 3).flatten ++ pk.drop n ++ pv = rowB 0 [] ((ps.take (j + 1)).map Pr.kv) := by
              rw [HTK.out]
              unfold pairB
              rw [HNN.out, HMM.out]
              simp
            rw [hfin] at ho9
            clear hN9 hN8 hB8 HO8 HV8 hN7 hg9 hg8 hat8 hat9 q1 z0 z1
            go_wp2_with fail
            go_roundw
            case rel => exact ⟨j + 1, by omega, by go_num, ho9, hB9⟩
            case measure => simp [intOf]; omega
    · obtain rfl : j = ps.length := by omega
      have t1 : decide (ps.length < ps.length) = false := decide_eq_false hlt
      rw [List.take_length] at ho
      go_wp2_with fail
      go_ret2
      exact ⟨_, rfl, ho, hB⟩
theorem cut_hi_o (a : Option Addr) (n c j : Nat) (z : Int) (hz : z = (j : Int)) (hj : j ≤ c) (W : World) :
    (Instr.slice 23 (.slice a n c) none (some (.int .i64 z)) none).run Try.prog W = .ok (.slice a j c) W := by
  subst hz
  rw [run_slice_h W 23 a n c under_u8 .i64 (j : Int) (by omega) (by omega), size_u8]
  simp only [Result.andThen, sliced, Int.toNat_natCast, Nat.mul_one, Nat.sub_zero]
  by_cases hc : c = 0
  · rw [if_pos hc]
  · rw [if_neg hc]
    cases a <;> simp [Addr.add]
theorem slice_eqN (w : World) : (binOp .eql 23 (.slice none 0 0) (.slice none 0 0)).run Try.prog w = .ok (.bool true) w := run_eql_slice_nil w _ _ none 0 0 Try.underlying23
theorem clone_n {w : World} : Calls Try.prog 25 #[.slice none 0 0] w fun e w' => e = .returned (.slice none 0 0) ∧ w' = w := by
  have hq := slice_eqN w
  go_enter Try.func25, Try.ntmps25
  go_wp2
  go_ret
  exact ⟨rfl, rfl⟩
theorem clone_o {w : World} {A : Option Addr} {c : Nat} {k : List Int} (hk : RdB w A k) (h0 : A = none → c = 0) (h1 : k.length ≤ 100000000) :
    Calls Try.prog 25 #[.slice A k.length c] w fun e w' => ∃ v, e = .returned v ∧ w'.ownsRow w.heap.size 5 1 v k.length (nums .u8 k) ∧ Below w.heap.size w w' := by
  cases A with
  | some a => exact clone_a hk h1
  | none =>
    have hk0 : k = [] := by
      rcases Nat.eq_zero_or_pos k.length with h | h
      · exact List.eq_nil_of_length_eq_zero h
      · obtain ⟨a, e⟩ := hk.some h
        cases e
    subst hk0
    rw [h0 rfl]
    exact clone_n.mono fun e w' ⟨he, hw⟩ => ⟨_, he, by rw [hw]; exact nil_own _ _, by rw [hw]; exact Below.refl _ _⟩
theorem results3_cell {fn : Func} {p u q : Tmp} {ty : TypeId} (h : fn.results = #[.cell p ty, .tmp u, .tmp q]) (tmps : Array Value) (P : Program) (w : World) :
    (results fn tmps).run P w =
      ((asAddr (tmps.getD p undef)).run P w).andThen fun a w₁ => ((loadVar ty a).run P w₁).andThen fun v w₂ => .ok (.tuple #[v, tmps.getD u undef, tmps.getD q undef]) w₂ := by
  simp only [results, h]
  simp [Sem.run_bind, Result.andThen]
theorem results3_row {P : Program} {fn : Func} {p u q : Tmp} {ty : TypeId} (h : fn.results = #[.cell p ty, .tmp u, .tmp q]) (tmps : Array Value) (w : World) (g : Nat) (t : TypeId) (cs : Array Value) (fr : Nat × Nat) (d : TypeDesc)
    (hp : tmps.getD p undef = .pointer (some ⟨g, 0, none⟩)) (hg : w.heap[g]? = some (.cells cs t fr))
    (hu : P.underlying ty = some d) (hd : (match d with | .struct _ | .array _ _ => true | _ => false) = true) (hi : (P.info? ty).map (·.size) = some cs.size) :
    (results fn tmps).run P w = .ok (.tuple #[.agg cs, tmps.getD u undef, tmps.getD q undef]) w := by
  rw [results3_cell h, hp]
  simp [asAddr, run_loadVar_row w g t ty cs fr d hg hu hd hi, Result.andThen]
/-- A pair of own rows. -/
structure POwn (n : Nat) (W : World) (p : Pr) : Prop where
  k : W.ownsRow n 5 1 (.slice (some p.A) p.k.length p.c) p.k.length (nums .u8 p.k)
  v : W.ownsRow n 5 1 (.slice (some p.B) p.v.length p.d) p.v.length (nums .u8 p.v)
  kc : p.k.length ≤ p.c
  vc : p.v.length ≤ p.d
theorem POwn.rd {n : Nat} {W : World} {p : Pr} (h : POwn n W p) : p.rd W := ⟨own_read h.k, h.kc, own_read h.v, h.vc⟩
theorem POwn.below {n : Nat} {W W1 : World} {p : Pr} (h : POwn n W p) (hb : Below W.heap.size W W1) : POwn n W1 p := ⟨own_below h.k hb, own_below h.v hb, h.kc, h.vc⟩
theorem arr2 {W : World} {e : Nat} {u v x : Value} {t : TypeId} (h : W.heap[e]? = some (.cells #[u, v, x] t (0, 0))) : W.cell? ⟨e, 0, none⟩ = some u ∧ W.cell? ⟨e, 1, none⟩ = some v := ⟨(blk_cell h 0).trans rfl, (blk_cell h 1).trans rfl⟩
theorem own_b {w : World} {B : Nat} {v : Value} {l : List Int} (h : w.ownsRow B 5 1 v l.length (nums .u8 l)) (h1 : 1 ≤ l.length) : ∃ A c, v = .slice (some A) l.length c ∧ RdB w (some A) l ∧ l.length ≤ c := by
  obtain ⟨A, c, rfl, hr, hc, _, _⟩ := own_form h
  obtain ⟨a, rfl⟩ := hr.some (by omega)
  exact ⟨a, c, rfl, hr, hc⟩
theorem own_set {W : World} {base b i n sz : Nat} {cs : Array Value} {t e : TypeId} {u v : Value} {xs : List Value} (hb : W.heap[b]? = some (.cells cs t (0, 0))) (ho : W.ownsRow base e sz v n xs) (hne : t ≠ e := by decide) : (W.setCell ⟨b, i, none⟩ u).ownsRow base e sz v n xs :=
  own_move ho fun k hk => Below.heap_setCell _ _ _ _ fun e' => by
    obtain ⟨cs', hc⟩ := own_typed ho k hk
    subst e'
    rw [hb] at hc
    simp only [Option.some.injEq, Obj.cells.injEq] at hc
    exact hne hc.2.1
/-- What stands when both parts are read. -/
def NxF (w : World) (n m : Nat) (A6 : Addr) (c6 : Nat) (A8 : Addr) (c8 : Nat) (pk pv : List Int) (W : World) : Prop :=
  W.heap[w.heap.size + 1]? = some (.cells #[.int .i64 (n : Nat), .int .i64 (m : Nat), .int .i64 (pv.length : Nat)] 111 (0, 0)) ∧ W.heap[w.heap.size + 2]? = some (.cells #[.slice (some A6) pk.length c6, .slice (some A8) pv.length c8] 75 (0, 0)) ∧
    W.heap[w.heap.size]? = some (.cells #[.slice none 0 0, .slice none 0 0] 75 (0, 0)) ∧ W.ownsRow w.heap.size 5 1 (.slice (some A6) pk.length c6) pk.length (nums .u8 pk) ∧ W.ownsRow w.heap.size 5 1 (.slice (some A8) pv.length c8) pv.length (nums .u8 pv) ∧ Below w.heap.size w W
theorem NxF.drewN {w : World} {n m c6 c8 : Nat} {A6 A8 : Addr} {pk pv : List Int} {W : World} (h : NxF w n m A6 c6 A8 c8 pk pv W) (k : Nat) : NxF w n m A6 c6 A8 c8 pk pv (W.drewN k) :=
  ⟨h.1, h.2.1, h.2.2.1, own_below h.2.2.2.1 (pw_below_drewN (Below.refl _ _) k), own_below h.2.2.2.2.1 (pw_below_drewN (Below.refl _ _) k), bdrewN h.2.2.2.2.2⟩
theorem NxF.drew {w : World} {n m c6 c8 : Nat} {A6 A8 : Addr} {pk pv : List Int} {W : World} (h : NxF w n m A6 c6 A8 c8 pk pv W) : NxF w n m A6 c6 A8 c8 pk pv W.drew :=
  ⟨h.1, h.2.1, h.2.2.1, own_below h.2.2.2.1 (below_drew (Below.refl _ _)), own_below h.2.2.2.2.1 (below_drew (Below.refl _ _)), bdrew h.2.2.2.2.2⟩
theorem noGoto_ret {Q : Exit → Act → World → Prop} {a : Act} {w : World} (h : Q .ret a w) : Exit.noGoto Q .ret a w := h
theorem wp_world {P : Program} {c : Code} {Q : Exit → Act → World → Prop} {a : Act} {W : World} (F : World → Prop) (h : F W) (k : ∀ W, F W → Code.wp P c Q a W) : Code.wp P c Q a W := k W h
theorem cutA_block (a : Addr) (i c : Nat) : (cutA a i c).block = a.block := by unfold cutA; split <;> simp [Addr.add]; split <;> rfl
/-- What is left behind q numbers. -/
def nxT (n m v : Nat) (R : List Int) : Nat → List Int
  | 0 => sh n ++ (sh m ++ (sh v ++ R))
  | 1 => sh m ++ (sh v ++ R)
  | 2 => sh v ++ R
  | _ => R
def nxV (n m v q : Nat) : Array Value := #[.int .i64 (if 0 < q then (n : Int) else 0), .int .i64 (if 1 < q then (m : Int) else 0), .int .i64 (if 2 < q then (v : Int) else 0)]
/-- What a round of reading numbers keeps. -/
def NxI (w : World) (bk n m v : Nat) (R : List Int) (q : Nat) (o iv : Value) (wr : World) : Prop := iv = .int .i64 q ∧ (∃ A c, o = .slice (some A) (nxT n m v R q).length c ∧ RdB w (some A) (nxT n m v R q) ∧ (nxT n m v R q).length ≤ c ∧ A.block = bk) ∧
  wr.heap[w.heap.size]? = some (.cells #[.slice none 0 0, .slice none 0 0] 75 (0, 0)) ∧ wr.heap[w.heap.size + 1]? = some (.cells (nxV n m v q) 111 (0, 0)) ∧ wr.heap[w.heap.size + 2]? = some (.cells #[.slice none 0 0, .slice none 0 0] 75 (0, 0)) ∧ Below w.heap.size w wr
set_option maxRecDepth 100000 in
set_option maxHeartbeats 2000000 in
theorem pnext_c {w : World} {A : Addr} {c nb i lc : Nat} {LA : Option Addr} {last pk pv rest : List Int} (hr : RdB w (some A) (pairB i last pk pv ++ rest)) (hnb : nb = (pairB i last pk pv ++ rest).length) (hc : nb ≤ c)
    (hL : RdB w LA last) (hLc : last.length ≤ lc) (hL0 : LA = none → lc = 0) (hby : Byt (pairB i last pk pv ++ rest)) (hbyl : Byt last) (hbk : Byt pk) (hlt : 0 < i → lts last pk = true) (hi : i < 4096) (hl1 : pk.length ≤ 4096) (hl2 : pv.length ≤ 4096) (hl3 : last.length ≤ 4096) (hk1 : 1 ≤ pk.length) (hv1 : 1 ≤ pv.length) (hrl : rest.length ≤ 1000000) :
    Calls Try.prog 75 #[.slice (some A) nb c, .int .i64 i, .slice LA last.length lc] w fun e w' => ∃ (p : Pr) (A' : Addr) (c' : Nat), e = .returned (.tuple #[p.val, .slice (some A') rest.length c', .bool true]) ∧ p.k = pk ∧ p.v = pv ∧ POwn w.heap.size w' p ∧ RdB w (some A') rest ∧ rest.length ≤ c' ∧ A'.block = A.block ∧ Below w.heap.size w w' := by
  have hn := comN_le i last pk
  have hnl : comN i last pk ≤ last.length := by
    unfold comN
    split
    · omega
    · exact (comF_le last pk).1
  have hn8 : i % 8 = 0 → comN i last pk = 0 := fun h => by simp [comN, h]
  have hn9 : i % 8 ≠ 0 → comF last pk = comN i last pk := fun h => by simp [comN, h]
  have htk : last.take (comN i last pk) = pk.take (comN i last pk) := by
    unfold comN
    split
    · simp
    · exact comF_take last pk
  unfold pairB at hr hnb hby
  generalize comN i last pk = n at *
  obtain ⟨m, hm⟩ : ∃ m, m = pk.length - n := ⟨_, rfl⟩
  rw [← hm] at hr hnb hby
  simp only [List.append_assoc] at hr hnb hby
  obtain ⟨R, hR⟩ : ∃ R, R = pk.drop n ++ (pv ++ rest) := ⟨_, rfl⟩
  rw [← hR] at hr hnb hby
  have lm : m ≤ 4096 := by omega
  have lR : R.length ≤ 1009000 := by rw [hR]; simp only [List.length_append, List.length_drop]; omega
  have ln : n ≤ 4096 := by omega
  have c1 : (sh n).length ≤ 3 := sh_length_le 2 n (by omega)
  have c2 : (sh m).length ≤ 3 := sh_length_le 2 m (by omega)
  have c3 : (sh pv.length).length ≤ 3 := sh_length_le 2 _ (by omega)
  have HL := Aside0.mk hL
  have HBY := Aside0.mk hby
  have HBL := Aside0.mk hbyl
  have HBK := Aside0.mk hbk
  have HLT := Aside0.mk hlt
  have HTK := Aside0.mk htk
  have HR := Aside0.mk hR
  have HRD := Aside0.mk hr
  have HM := Aside0.mk hm
  have HN8 := Aside0.mk hn8
  have HN9 := Aside0.mk hn9
  have HNB := Aside0.mk hnb
  clear hL hby hbyl hbk hlt htk hR hr hm hn8 hn9 hnb
  go_enter Try.func75, Try.ntmps75
  go_wp2_with (first | go_step3 | fail)
  go_loopw [0, 15] (fun o iv wr => ∃ q : Nat, q ≤ 3 ∧ NxI w A.block n m pv.length R q o iv wr) (fun _ iv _ => 3 - (intOf iv).toNat)
  case atStart =>
    refine ⟨0, by omega, rfl, ⟨A, c, by rw [HNB.out]; rfl, HRD.out, by rw [show nxT n m pv.length R 0 = sh n ++ (sh m ++ (sh pv.length ++ R)) from rfl, ← HNB.out]; exact hc, rfl⟩, al_old (al_old (al_new rfl) _) _, al_old (al_new (by simp)) _, al_new (by simp), (((Below.refl _ w).alloc (Nat.le_refl _) _).alloc (by simp) _).alloc (by simp; omega) _⟩
  case round =>
    obtain ⟨q, hq, rfl, ⟨Aq, cq, rfl, hrq, hcq, hbq⟩, hb0, hb1, hb2, hB⟩ := hrel
    have HRQ := Aside0.mk hrq
    clear hrq
    by_cases hq3 : q < 3
    · rcases (by omega : q = 0 ∨ q = 1 ∨ q = 2) with rfl | rfl | rfl
      · have x0 : wr.cell? ⟨w.heap.size + 1, 0, none⟩ = some (.int .i64 0) := (blk_cell hb1 0).trans rfl
        have f0 := blk_frozen hb1 0
        have hmore : Byt (sh m ++ (sh pv.length ++ R)) := fun z hz => HBY.out z (by (try simp only [List.mem_append] at hz); simp only [List.mem_append]; first | exact .inr hz | exact .inr (.inr hz) | exact .inr (.inr (.inr hz)))
        have hlm : (sh m ++ (sh pv.length ++ R)).length ≤ 1010000 := by (try simp only [List.length_append]); omega
        have hrs := readShort_c (w := wr) (A := some Aq) (c := cq) (u := n) (more := sh m ++ (sh pv.length ++ R)) (by omega) (HRQ.out.below hB) hmore (by omega) hcq
        have t1 : decide ((4096 : Int) < (n : Nat)) = false := decide_eq_false (by omega)
        have qc : ∀ W : World, (Instr.slice 23 (.slice (some Aq) (nxT n m pv.length R 0).length cq) (some (.int .i64 ((sh n).length : Nat))) none none).run Try.prog W = .ok (.slice (some (cutA Aq (sh n).length cq)) (nxT n m pv.length R 1).length (cq - (sh n).length)) W := fun W => by
          rw [cut_lo Aq _ cq (sh n).length _ rfl (by show _ ≤ (sh n ++ (sh m ++ (sh pv.length ++ R))).length; simp)]
          rw [show (nxT n m pv.length R 0).length - (sh n).length = (nxT n m pv.length R 1).length from by show (sh n ++ (sh m ++ (sh pv.length ++ R))).length - _ = (sh m ++ (sh pv.length ++ R)).length; simp]
        have hrn : RdB w (some (cutA Aq (sh n).length cq)) (nxT n m pv.length R 1) := by
          have := cutA_rd (i := (sh n).length) HRQ.out hcq
          rwa [show ((nxT n m pv.length R 0)).drop (sh n).length = (nxT n m pv.length R 1) from by show (sh n ++ (sh m ++ (sh pv.length ++ R))).drop _ = (sh m ++ (sh pv.length ++ R)); simp] at this
        have hcn : (nxT n m pv.length R 1).length ≤ cq - (sh n).length := by
          have h1 : (nxT n m pv.length R 0).length = (sh n).length + (nxT n m pv.length R 1).length := by show (sh n ++ (sh m ++ (sh pv.length ++ R))).length = _ + (sh m ++ (sh pv.length ++ R)).length; simp
          omega
        have HRS := Aside0.mk hrs
        have HRN := Aside0.mk hrn
        have HCN := Aside0.mk hcn
        have HCQ := Aside0.mk hcq
        clear hmore hlm hrs hrn hcn hcq
        go_wp2_with (first | (go_at_call 79; refine HRS.out.mono ?_; rintro e _ ⟨rfl, nd, rfl⟩) | fail)
        have s1 : IntKind.i64.wrap ((n : Nat) : Int) = ((n : Nat) : Int) := by rw [IntKind.wrap_i64]; omega
        go_region_with fail
        clear s1
        all_goals
          go_wp2_with fail
          go_roundw
          case rel =>
            refine ⟨1, by omega, rfl, ⟨_, _, rfl, HRN.out, HCN.out, (cutA_block _ _ _).trans hbq⟩, (Below.heap_setCell _ _ _ _ (by simp)).trans hb0, ?_, (Below.heap_setCell _ _ _ _ (by simp)).trans hb2, ?_⟩
            · exact (blk_put hb1 0 _ rfl).trans (by simp [nxV])
            · exact (bdrewN hB).setCell (p := ⟨w.heap.size + 1, 0, none⟩) (by simp) _
          case measure => simp [intOf]
      · have x0 : wr.cell? ⟨w.heap.size + 1, 1, none⟩ = some (.int .i64 0) := (blk_cell hb1 1).trans rfl
        have f0 := blk_frozen hb1 1
        have hmore : Byt (sh pv.length ++ R) := fun z hz => HBY.out z (by (try simp only [List.mem_append] at hz); simp only [List.mem_append]; first | exact .inr hz | exact .inr (.inr hz) | exact .inr (.inr (.inr hz)))
        have hlm : (sh pv.length ++ R).length ≤ 1010000 := by (try simp only [List.length_append]); omega
        have hrs := readShort_c (w := wr) (A := some Aq) (c := cq) (u := m) (more := sh pv.length ++ R) (by omega) (HRQ.out.below hB) hmore (by omega) hcq
        have t1 : decide ((4096 : Int) < (m : Nat)) = false := decide_eq_false (by omega)
        have qc : ∀ W : World, (Instr.slice 23 (.slice (some Aq) (nxT n m pv.length R 1).length cq) (some (.int .i64 ((sh m).length : Nat))) none none).run Try.prog W = .ok (.slice (some (cutA Aq (sh m).length cq)) (nxT n m pv.length R 2).length (cq - (sh m).length)) W := fun W => by
          rw [cut_lo Aq _ cq (sh m).length _ rfl (by show _ ≤ (sh m ++ (sh pv.length ++ R)).length; simp)]
          rw [show (nxT n m pv.length R 1).length - (sh m).length = (nxT n m pv.length R 2).length from by show (sh m ++ (sh pv.length ++ R)).length - _ = (sh pv.length ++ R).length; simp]
        have hrn : RdB w (some (cutA Aq (sh m).length cq)) (nxT n m pv.length R 2) := by
          have := cutA_rd (i := (sh m).length) HRQ.out hcq
          rwa [show ((nxT n m pv.length R 1)).drop (sh m).length = (nxT n m pv.length R 2) from by show (sh m ++ (sh pv.length ++ R)).drop _ = (sh pv.length ++ R); simp] at this
        have hcn : (nxT n m pv.length R 2).length ≤ cq - (sh m).length := by
          have h1 : (nxT n m pv.length R 1).length = (sh m).length + (nxT n m pv.length R 2).length := by show (sh m ++ (sh pv.length ++ R)).length = _ + (sh pv.length ++ R).length; simp
          omega
        have HRS := Aside0.mk hrs
        have HRN := Aside0.mk hrn
        have HCN := Aside0.mk hcn
        have HCQ := Aside0.mk hcq
        clear hmore hlm hrs hrn hcn hcq
        go_wp2_with (first | (go_at_call 79; refine HRS.out.mono ?_; rintro e _ ⟨rfl, nd, rfl⟩) | fail)
        have s1 : IntKind.i64.wrap ((m : Nat) : Int) = ((m : Nat) : Int) := by rw [IntKind.wrap_i64]; omega
        go_region_with fail
        clear s1
        all_goals
          go_wp2_with fail
          go_roundw
          case rel =>
            refine ⟨2, by omega, rfl, ⟨_, _, rfl, HRN.out, HCN.out, (cutA_block _ _ _).trans hbq⟩, (Below.heap_setCell _ _ _ _ (by simp)).trans hb0, ?_, (Below.heap_setCell _ _ _ _ (by simp)).trans hb2, ?_⟩
            · exact (blk_put hb1 1 _ rfl).trans (by simp [nxV])
            · exact (bdrewN hB).setCell (p := ⟨w.heap.size + 1, 1, none⟩) (by simp) _
          case measure => simp [intOf]
      · have x0 : wr.cell? ⟨w.heap.size + 1, 2, none⟩ = some (.int .i64 0) := (blk_cell hb1 2).trans rfl
        have f0 := blk_frozen hb1 2
        have hmore : Byt (R) := fun z hz => HBY.out z (by (try simp only [List.mem_append] at hz); simp only [List.mem_append]; first | exact .inr hz | exact .inr (.inr hz) | exact .inr (.inr (.inr hz)))
        have hlm : (R).length ≤ 1010000 := by (try simp only [List.length_append]); omega
        have hrs := readShort_c (w := wr) (A := some Aq) (c := cq) (u := pv.length) (more := R) (by omega) (HRQ.out.below hB) hmore (by omega) hcq
        have t1 : decide ((4096 : Int) < (pv.length : Nat)) = false := decide_eq_false (by omega)
        have qc : ∀ W : World, (Instr.slice 23 (.slice (some Aq) (nxT n m pv.length R 2).length cq) (some (.int .i64 ((sh pv.length).length : Nat))) none none).run Try.prog W = .ok (.slice (some (cutA Aq (sh pv.length).length cq)) (nxT n m pv.length R 3).length (cq - (sh pv.length).length)) W := fun W => by
          rw [cut_lo Aq _ cq (sh pv.length).length _ rfl (by show _ ≤ (sh pv.length ++ (R)).length; simp)]
          rw [show (nxT n m pv.length R 2).length - (sh pv.length).length = (nxT n m pv.length R 3).length from by show (sh pv.length ++ (R)).length - _ = (R).length; simp]
        have hrn : RdB w (some (cutA Aq (sh pv.length).length cq)) (nxT n m pv.length R 3) := by
          have := cutA_rd (i := (sh pv.length).length) HRQ.out hcq
          rwa [show ((nxT n m pv.length R 2)).drop (sh pv.length).length = (nxT n m pv.length R 3) from by show (sh pv.length ++ (R)).drop _ = (R); simp] at this
        have hcn : (nxT n m pv.length R 3).length ≤ cq - (sh pv.length).length := by
          have h1 : (nxT n m pv.length R 2).length = (sh pv.length).length + (nxT n m pv.length R 3).length := by show (sh pv.length ++ (R)).length = _ + (R).length; simp
          omega
        have HRS := Aside0.mk hrs
        have HRN := Aside0.mk hrn
        have HCN := Aside0.mk hcn
        have HCQ := Aside0.mk hcq
        clear hmore hlm hrs hrn hcn hcq
        go_wp2_with (first | (go_at_call 79; refine HRS.out.mono ?_; rintro e _ ⟨rfl, nd, rfl⟩) | fail)
        have s1 : IntKind.i64.wrap ((pv.length : Nat) : Int) = ((pv.length : Nat) : Int) := by rw [IntKind.wrap_i64]; omega
        go_region_with fail
        clear s1
        all_goals
          go_wp2_with fail
          go_roundw
          case rel =>
            refine ⟨3, by omega, rfl, ⟨_, _, rfl, HRN.out, HCN.out, (cutA_block _ _ _).trans hbq⟩, (Below.heap_setCell _ _ _ _ (by simp)).trans hb0, ?_, (Below.heap_setCell _ _ _ _ (by simp)).trans hb2, ?_⟩
            · exact (blk_put hb1 2 _ rfl).trans (by simp [nxV])
            · exact (bdrewN hB).setCell (p := ⟨w.heap.size + 1, 2, none⟩) (by simp) _
          case measure => simp [intOf]
    · obtain rfl : q = 3 := by omega
      rw [show nxT n m pv.length R 3 = R from rfl] at HRQ hcq ⊢
      have hb1' : wr.heap[w.heap.size + 1]? = some (.cells #[.int .i64 (n : Nat), .int .i64 (m : Nat), .int .i64 (pv.length : Nat)] 111 (0, 0)) := hb1.trans (by simp [nxV])
      clear hb1
      have z0 : wr.cell? ⟨w.heap.size + 1, 0, none⟩ = some (.int .i64 (n : Nat)) := (blk_cell hb1' 0).trans rfl
      have z1 : wr.cell? ⟨w.heap.size + 1, 1, none⟩ = some (.int .i64 (m : Nat)) := (blk_cell hb1' 1).trans rfl
      have z2 : wr.cell? ⟨w.heap.size + 1, 2, none⟩ = some (.int .i64 (pv.length : Nat)) := (blk_cell hb1' 2).trans rfl
      have t1 : decide ((last.length : Int) < (n : Int)) = false := decide_eq_false (by omega)
      have t7 : decide (last.length < n) = false := decide_eq_false (by omega)
      have t2 : decide ((4096 : Int) < (n : Int) + (m : Int)) = false := decide_eq_false (by have := HM.out; omega)
      have t3 : decide ((R.length : Int) < (m : Int) + (pv.length : Int)) = false := decide_eq_false (by rw [HR.out]; simp only [List.length_append, List.length_drop]; have := HM.out; omega)
      go_upto_region 10 with (first | go_step3 | fail)
      go_cut [70] (fun s70 W => s70 = .bool false ∧ W = wr)
      case first =>
        by_cases h8 : i % 8 = 0
        · have e8 : (i : Int) % 8 = 0 := by omega
          have t6 : decide (0 < n) = false := decide_eq_false (by have := HN8.out h8; omega)
          have t4 : ((i : Int) % 8 == 0) = true := by rw [beq_iff_eq]; exact e8
          have t5 : decide ((0 : Int) < (n : Int)) = false := decide_eq_false (by have := HN8.out h8; omega)
          go_wp2_with fail
          go_meet
          case rel => exact ⟨rfl, rfl⟩
        · have t4 : ((i : Int) % 8 == 0) = false := by rw [beq_eq_false_iff_ne]; omega
          go_wp2_with fail
          go_meet
          case rel => exact ⟨rfl, rfl⟩
      case rest =>
        obtain ⟨rfl, rfl⟩ := hcut
        clear t1 t2 t3 t7
        go_wp2_with fail
        have hmR : m ≤ R.length := by rw [HR.out]; simp only [List.length_append, List.length_drop]; have := HM.out; omega
        have qa : ∀ W : World, (Instr.slice 23 (.slice LA last.length lc) none (some (.int .i64 (n : Nat))) none).run Try.prog W = .ok (.slice LA n lc) W := cut_hi_o LA last.length lc n n rfl (by omega)
        have qb : ∀ W : World, (Instr.slice 23 (.slice (some Aq) R.length cq) none (some (.int .i64 (m : Nat))) none).run Try.prog W = .ok (.slice (some Aq) m cq) W := cut_hi_o (some Aq) R.length cq m m rfl (by omega)
        have hBd : Below w.heap.size w wc.drew := bdrew hB
        have hcl := clone_o (w := wc.drew) (c := lc) (rdb_take (HL.out.below hBd) n) hL0 (by rw [List.length_take]; omega)
        rw [show (last.take n).length = n by rw [List.length_take]; omega, HTK.out] at hcl
        have hpl : (pk.take n).length = n := by rw [List.length_take]; omega
        have hrl' : (R.take m).length = m := by rw [List.length_take]; omega
        have HPL := Aside0.mk hpl
        have HRL := Aside0.mk hrl'
        have HCL := Aside0.mk hcl
        clear hpl hrl' hcl
        go_region_held3 (fun w' => w'.cell? ⟨w.heap.size + 1, 0, none⟩ = some (.int .i64 (n : Nat)) ∧ w'.cell? ⟨w.heap.size + 1, 1, none⟩ = some (.int .i64 (m : Nat))) (first | (with_reducible exact arr2 (by assumption)) | go_keep) (first
          | (go_at_call 25
             refine HCL.out.mono ?_
             rintro e w5 ⟨v5, rfl, ho5, hb5⟩
             have hB5 : Below w.heap.size w w5 := hBd.trans (hb5.mono hBd.size)
             have hA5 := (hb5.block _ (blk_lt (w := wc.drew) hb1')).trans hb1'
             have hP5 := (hb5.block _ (blk_lt (w := wc.drew) hb2)).trans hb2
             have hR5 := (hb5.block _ (blk_lt (w := wc.drew) hb0)).trans hb0
             have HO5 := Aside0.mk ho5
             have HK5 := Aside0.mk (rdb_take (HRQ.out.below hB5) m)
             clear ho5)
          | (refine step_append_bytes (l := pk.take n) (B := wc.drew.heap.size) rfl _ _ (by rfl) (by rfl) (by rw [HRL.out]; rfl) (by rw [HPL.out]; exact HO5.out) HK5.out (fun h => by cases h) (by rw [HRL.out, HPL.out]; omega) hb5.size ?_
             intro v6 w6 ho6 hg6 hat6
             rw [← HPL.out] at HO5
             have hA6 := box_grown hA5 HO5.out hg6
             have hP6 := box_grown hP5 HO5.out hg6
             have hR6 := box_grown hR5 HO5.out hg6
             have hB6 := AppTo.below (r := []) hg6 (Below.refl _ w5 |>.trans (Below.refl _ _)) HO5.out hb5.size
             rw [show pk.take n ++ R.take m = pk by rw [HR.out, List.take_append_of_le_length (by rw [List.length_drop, HM.out]; omega), List.take_of_length_le (l := pk.drop n) (by rw [List.length_drop, HM.out]; omega), List.take_append_drop]] at ho6
             obtain ⟨A6, c6, rfl, hr6, hc6⟩ := own_b ho6 hk1
             have y0 := (arr2 hA6).1
             have y1 := (arr2 hA6).2
             have p0 : w6.cell? ⟨w.heap.size + 1 + 1, 0, none⟩ = some (.slice none 0 0) := (blk_cell hP6 0).trans rfl
             have pf : w6.frozen? ⟨w.heap.size + 1 + 1, 0, none⟩ = false := blk_frozen hP6 0))
        have hB66 : Below w.heap.size w w6 := hB5.trans (hB6.mono hBd.size)
        refine end_at (fun W => W.heap[w.heap.size + 1]? = some (.cells #[.int .i64 (n : Nat), .int .i64 (m : Nat), .int .i64 (pv.length : Nat)] 111 (0, 0)) ∧ W.heap[w.heap.size + 2]? = some (.cells #[.slice (some A6) pk.length c6, .slice none 0 0] 75 (0, 0)) ∧
          W.heap[w.heap.size]? = some (.cells #[.slice none 0 0, .slice none 0 0] 75 (0, 0)) ∧ W.ownsRow w.heap.size 5 1 (.slice (some A6) pk.length c6) pk.length (nums .u8 pk) ∧ Below w.heap.size w W)
          ⟨(Below.heap_setCell _ _ _ _ (by simp)).trans hA6, blk_put hP6 0 _ rfl, (Below.heap_setCell _ _ _ _ (by simp; omega)).trans hR6, own_set hP6 (own_low ho6 hBd.size), hB66.setCell (p := ⟨w.heap.size + 1 + 1, 0, none⟩) (by simp; omega) _⟩ ?_
        clear y0 y1 p0 pf hA6 hP6 hR6 hB6 ho6 hr6 HO5 HK5 hA5 hP5 hR5 hB5 hb5 hg6 hat6 qa qb z0 z1 z2 hb0 hb1' hb2 hBd HCL hB66
        rintro w7 ⟨hA7, hP7, hR7, ho7, hB7⟩
        have y1 : w7.cell? ⟨w.heap.size + 1, 1, none⟩ = some (.int .i64 (m : Nat)) := (blk_cell hA7 1).trans rfl
        have y2 : w7.cell? ⟨w.heap.size + 1, 2, none⟩ = some (.int .i64 (pv.length : Nat)) := (blk_cell hA7 2).trans rfl
        have hmv : m + pv.length ≤ R.length := by rw [HR.out]; simp only [List.length_append, List.length_drop]; have := HM.out; omega
        have qc : ∀ W : World, (Instr.slice 23 (.slice (some Aq) R.length cq) (some (.int .i64 (m : Nat))) (some (.int .i64 ((m : Nat) + (pv.length : Nat)))) none).run Try.prog W = .ok (.slice (some (cutA Aq m cq)) pv.length (cq - m)) W := fun W => by
          have := cut_lh Aq R.length cq m (m + pv.length) (m : Nat) ((m : Nat) + (pv.length : Nat)) rfl (by omega) (by omega) (by omega) W
          rwa [Nat.add_sub_cancel_left] at this
        have hdm : (R.drop m).take pv.length = pv := by rw [HR.out, List.drop_append_of_le_length (by rw [List.length_drop, HM.out]; omega), List.drop_of_length_le (l := pk.drop n) (by rw [List.length_drop, HM.out]; omega), List.nil_append, List.take_left]
        have hpv := rdb_take (cutA_rd (i := m) (HRQ.out.below hB7) hcq) pv.length
        rw [hdm] at hpv
        have hcl := clone_o (c := cq - m) hpv (fun h => by cases h) (by omega)
        have HCL := Aside0.mk hcl
        have HO7 := Aside0.mk ho7
        clear hpv hcl hdm ho7
        go_upto_region 13 with (first
          | (go_at_call 25
             refine HCL.out.mono ?_
             rintro e w8 ⟨v8, rfl, ho8, hb8⟩
             have hB8 : Below w.heap.size w w8 := hB7.trans (hb8.mono hB7.size)
             have hA8 := (hb8.block _ (blk_lt hA7)).trans hA7
             have hP8 := (hb8.block _ (blk_lt hP7)).trans hP7
             have hR8 := (hb8.block _ (blk_lt hR7)).trans hR7
             have hk8 := own_below HO7.out hb8
             obtain ⟨A8, c8, rfl, hr8, hc8⟩ := own_b ho8 hv1
             have p1 : w8.cell? ⟨w.heap.size + 1 + 1, 1, none⟩ = some (.slice none 0 0) := (blk_cell hP8 1).trans rfl
             have pf : w8.frozen? ⟨w.heap.size + 1 + 1, 1, none⟩ = false := blk_frozen hP8 1)
          | go_step3 | fail)
        refine wp_world (NxF w n m A6 c6 A8 c8 pk pv)
          ⟨(Below.heap_setCell _ _ _ _ (by simp)).trans hA8, blk_put hP8 1 _ rfl, (Below.heap_setCell _ _ _ _ (by simp; omega)).trans hR8, own_set hP8 hk8, own_set hP8 (own_low ho8 hB7.size), hB8.setCell (p := ⟨w.heap.size + 1 + 1, 1, none⟩) (by simp; omega) _⟩ ?_
        clear y1 y2 p1 pf hA7 hP7 hR7 hB7 hA8 hP8 hR8 hB8 ho8 hk8 hb8 hr8 HO7 HCL qc
        intro w9 hF9
        have HF9 := Aside0.mk hF9
        obtain ⟨hA9, hP9, hR9, hk9, hv9, hB9⟩ := hF9
        go_cut [115] (fun s115 W => s115 = .bool false ∧ NxF w n m A6 c6 A8 c8 pk pv W)
        case first =>
          have x0 : w9.cell? ⟨w.heap.size + 1 + 1, 0, none⟩ = some (.slice (some A6) pk.length c6) := (blk_cell hP9 0).trans rfl
          have x1 : w9.cell? ⟨w.heap.size + 1, 0, none⟩ = some (.int .i64 (n : Nat)) := (blk_cell hA9 0).trans rfl
          have hL9 := HL.out.below (bdrew hB9)
          have hk9' : RdB w9.drew (some A6) pk := own_read hk9
          have hcmp := compare_c (c := lc) (d := c6) hL9 hk9'
          have hcom := common_c hL9 hLc hk9' hc6 (by omega)
          have HCMP := Aside0.mk hcmp
          have HCOM := Aside0.mk hcom
          clear hcmp hcom hL9 hk9'
          by_cases h0 : i = 0
          · have t4 : decide ((0 : Int) < (i : Int)) = false := decide_eq_false (by omega)
            have t6 : decide (0 < i) = false := decide_eq_false (by omega)
            have t5 : decide ((0 : Int) < (i : Int) % 8) = false := decide_eq_false (by omega)
            have e9 : (i : Int).tmod 8 = (i : Int) % 8 := Int.tmod_eq_emod_of_nonneg (by omega)
            clear h0
            refine wp_region_noPanic ?_
            refine wp_region_held_drew (S := fun _ => True) (by kernel_rfl) trivial (fun hHeld => ?_)
            refine tk (i := 0) (N := 93) (v := .int .i64 (i : Nat)) rfl rfl (by kernel_rfl) (by kernel_rfl) (by kernel_rfl) (fun _ _ _ h => h) (Or.inl ⟨by rfl, fun w' hS => by (try simp only at hS); go_simp⟩) hHeld ?_
            simp only [Act.put, List.setIfInBounds_toArray, List.set_cons_zero, List.set_cons_succ]
            refine tk (i := 1) (N := 94) (v := .bool false) rfl rfl (by kernel_rfl) (by kernel_rfl) (by kernel_rfl) (fun _ _ _ h => h) (Or.inl ⟨by rfl, fun w' hS => by (try simp only at hS); go_simp⟩) hHeld ?_
            simp only [Act.put, List.setIfInBounds_toArray, List.set_cons_zero, List.set_cons_succ]
            refine tk (i := 2) (N := 95) (v := .bool false) rfl rfl (by kernel_rfl) (by kernel_rfl) (by kernel_rfl) (fun _ _ _ h => h) (Or.inl ⟨by rfl, fun w' hS => by (try simp only at hS); go_simp⟩) hHeld ?_
            simp only [Act.put, List.setIfInBounds_toArray, List.set_cons_zero, List.set_cons_succ]
            refine tk (i := 3) (N := 96) (v := undef) rfl rfl (by kernel_rfl) (by kernel_rfl) (by kernel_rfl) (fun _ _ _ h => h) (Or.inr ⟨by rfl, rfl⟩) hHeld ?_
            simp only [Act.put, List.setIfInBounds_toArray, List.set_cons_zero, List.set_cons_succ]
            refine tk (i := 4) (N := 97) (v := undef) rfl rfl (by kernel_rfl) (by kernel_rfl) (by kernel_rfl) (fun _ _ _ h => h) (Or.inr ⟨by rfl, rfl⟩) hHeld ?_
            simp only [Act.put, List.setIfInBounds_toArray, List.set_cons_zero, List.set_cons_succ]
            refine tk (i := 5) (N := 98) (v := undef) rfl rfl (by kernel_rfl) (by kernel_rfl) (by kernel_rfl) (fun _ _ _ h => h) (Or.inr ⟨by rfl, rfl⟩) hHeld ?_
            simp only [Act.put, List.setIfInBounds_toArray, List.set_cons_zero, List.set_cons_succ]
            refine tk (i := 6) (N := 99) (v := undef) rfl rfl (by kernel_rfl) (by kernel_rfl) (by kernel_rfl) (fun _ _ _ h => h) (Or.inr ⟨by rfl, rfl⟩) hHeld ?_
            simp only [Act.put, List.setIfInBounds_toArray, List.set_cons_zero, List.set_cons_succ]
            refine tk (i := 7) (N := 100) (v := undef) rfl rfl (by kernel_rfl) (by kernel_rfl) (by kernel_rfl) (fun _ _ _ h => h) (Or.inr ⟨by rfl, rfl⟩) hHeld ?_
            simp only [Act.put, List.setIfInBounds_toArray, List.set_cons_zero, List.set_cons_succ]
            refine tk (i := 8) (N := 101) (v := .bool false) rfl rfl (by kernel_rfl) (by kernel_rfl) (by kernel_rfl) (fun _ _ _ h => h) (Or.inl ⟨by rfl, fun w' hS => by (try simp only at hS); go_simp⟩) hHeld ?_
            simp only [Act.put, List.setIfInBounds_toArray, List.set_cons_zero, List.set_cons_succ]
            refine tk (i := 9) (N := 102) (v := .bool false) rfl rfl (by kernel_rfl) (by kernel_rfl) (by kernel_rfl) (fun _ _ _ h => h) (Or.inl ⟨by rfl, fun w' hS => by (try simp only at hS); go_simp⟩) hHeld ?_
            simp only [Act.put, List.setIfInBounds_toArray, List.set_cons_zero, List.set_cons_succ]
            refine tk (i := 10) (N := 103) (v := .int .i64 (i : Nat)) rfl rfl (by kernel_rfl) (by kernel_rfl) (by kernel_rfl) (fun _ _ _ h => h) (Or.inl ⟨by rfl, fun w' hS => by (try simp only at hS); go_simp⟩) hHeld ?_
            simp only [Act.put, List.setIfInBounds_toArray, List.set_cons_zero, List.set_cons_succ]
            refine tk (i := 11) (N := 104) (v := .int .i64 ((i : Int) % 8)) rfl rfl (by kernel_rfl) (by kernel_rfl) (by kernel_rfl) (fun _ _ _ h => h) (Or.inl ⟨by rfl, fun w' hS => by (try simp only at hS); go_simp⟩) hHeld ?_
            simp only [Act.put, List.setIfInBounds_toArray, List.set_cons_zero, List.set_cons_succ]
            refine tk (i := 12) (N := 105) (v := .bool false) rfl rfl (by kernel_rfl) (by kernel_rfl) (by kernel_rfl) (fun _ _ _ h => h) (Or.inl ⟨by rfl, fun w' hS => by (try simp only at hS); go_simp⟩) hHeld ?_
            simp only [Act.put, List.setIfInBounds_toArray, List.set_cons_zero, List.set_cons_succ]
            refine tk (i := 13) (N := 106) (v := .bool false) rfl rfl (by kernel_rfl) (by kernel_rfl) (by kernel_rfl) (fun _ _ _ h => h) (Or.inl ⟨by rfl, fun w' hS => by (try simp only at hS); go_simp⟩) hHeld ?_
            simp only [Act.put, List.setIfInBounds_toArray, List.set_cons_zero, List.set_cons_succ]
            refine tk (i := 14) (N := 107) (v := undef) rfl rfl (by kernel_rfl) (by kernel_rfl) (by kernel_rfl) (fun _ _ _ h => h) (Or.inr ⟨by rfl, rfl⟩) hHeld ?_
            simp only [Act.put, List.setIfInBounds_toArray, List.set_cons_zero, List.set_cons_succ]
            refine tk (i := 15) (N := 108) (v := undef) rfl rfl (by kernel_rfl) (by kernel_rfl) (by kernel_rfl) (fun _ _ _ h => h) (Or.inr ⟨by rfl, rfl⟩) hHeld ?_
            simp only [Act.put, List.setIfInBounds_toArray, List.set_cons_zero, List.set_cons_succ]
            refine tk (i := 16) (N := 109) (v := undef) rfl rfl (by kernel_rfl) (by kernel_rfl) (by kernel_rfl) (fun _ _ _ h => h) (Or.inr ⟨by rfl, rfl⟩) hHeld ?_
            simp only [Act.put, List.setIfInBounds_toArray, List.set_cons_zero, List.set_cons_succ]
            refine tk (i := 17) (N := 110) (v := undef) rfl rfl (by kernel_rfl) (by kernel_rfl) (by kernel_rfl) (fun _ _ _ h => h) (Or.inr ⟨by rfl, rfl⟩) hHeld ?_
            simp only [Act.put, List.setIfInBounds_toArray, List.set_cons_zero, List.set_cons_succ]
            refine tk (i := 18) (N := 111) (v := undef) rfl rfl (by kernel_rfl) (by kernel_rfl) (by kernel_rfl) (fun _ _ _ h => h) (Or.inr ⟨by rfl, rfl⟩) hHeld ?_
            simp only [Act.put, List.setIfInBounds_toArray, List.set_cons_zero, List.set_cons_succ]
            refine tk (i := 19) (N := 112) (v := undef) rfl rfl (by kernel_rfl) (by kernel_rfl) (by kernel_rfl) (fun _ _ _ h => h) (Or.inr ⟨by rfl, rfl⟩) hHeld ?_
            simp only [Act.put, List.setIfInBounds_toArray, List.set_cons_zero, List.set_cons_succ]
            refine tk (i := 20) (N := 113) (v := undef) rfl rfl (by kernel_rfl) (by kernel_rfl) (by kernel_rfl) (fun _ _ _ h => h) (Or.inr ⟨by rfl, rfl⟩) hHeld ?_
            simp only [Act.put, List.setIfInBounds_toArray, List.set_cons_zero, List.set_cons_succ]
            refine tk (i := 21) (N := 114) (v := .bool false) rfl rfl (by kernel_rfl) (by kernel_rfl) (by kernel_rfl) (fun _ _ _ h => h) (Or.inl ⟨by rfl, fun w' hS => by (try simp only at hS); go_simp⟩) hHeld ?_
            simp only [Act.put, List.setIfInBounds_toArray, List.set_cons_zero, List.set_cons_succ]
            refine tk (i := 22) (N := 115) (v := .bool false) rfl rfl (by kernel_rfl) (by kernel_rfl) (by kernel_rfl) (fun _ _ _ h => h) (Or.inl ⟨by rfl, fun w' hS => by (try simp only at hS); go_simp⟩) hHeld ?_
            simp only [Act.put, List.setIfInBounds_toArray, List.set_cons_zero, List.set_cons_succ]
            refine wpAnyH_done (by kernel_rfl) ?_ _
            refine NoPanic.normal ?_
            go_wp2_with fail
            go_meet
            case rel => exact ⟨rfl, HF9.out.drew⟩
          · have t4 : decide ((0 : Int) < (i : Int)) = true := decide_eq_true (by omega)
            have t6 : decide (0 < i) = true := decide_eq_true (by omega)
            have hlt := HLT.out (by omega)
            have t7 : decide (0 ≤ cmpB last pk) = false := decide_eq_false (by have := (cmpB_lts HBL.out HBK.out).2 hlt; omega)
            by_cases h8 : i % 8 = 0
            · have t5 : decide ((0 : Int) < (i : Int) % 8) = false := decide_eq_false (by omega)
              have e9 : (i : Int).tmod 8 = (i : Int) % 8 := Int.tmod_eq_emod_of_nonneg (by omega)
              clear h8 h0
              refine wp_region_noPanic ?_
              refine wp_region_held_drew (S := fun w' => w' = w9.drew) (by kernel_rfl) rfl (fun hHeld => ?_)
              refine tk (i := 0) (N := 93) (v := .int .i64 (i : Nat)) rfl rfl (by kernel_rfl) (by kernel_rfl) (by kernel_rfl) (fun _ _ _ h => h) (Or.inl ⟨by rfl, fun w' hS => by (try simp only at hS); go_simp⟩) hHeld ?_
              simp only [Act.put, List.setIfInBounds_toArray, List.set_cons_zero, List.set_cons_succ]
              refine tk (i := 1) (N := 94) (v := .bool true) rfl rfl (by kernel_rfl) (by kernel_rfl) (by kernel_rfl) (fun _ _ _ h => h) (Or.inl ⟨by rfl, fun w' hS => by (try simp only at hS); go_simp⟩) hHeld ?_
              simp only [Act.put, List.setIfInBounds_toArray, List.set_cons_zero, List.set_cons_succ]
              refine tk (i := 2) (N := 95) (v := .bool true) rfl rfl (by kernel_rfl) (by kernel_rfl) (by kernel_rfl) (fun _ _ _ h => h) (Or.inl ⟨by rfl, fun w' hS => by (try simp only at hS); go_simp⟩) hHeld ?_
              simp only [Act.put, List.setIfInBounds_toArray, List.set_cons_zero, List.set_cons_succ]
              refine tk (i := 3) (N := 96) (v := .slice LA last.length lc) rfl rfl (by kernel_rfl) (by kernel_rfl) (by kernel_rfl) (fun _ _ _ h => h) (Or.inl ⟨by rfl, fun w' hS => by (try simp only at hS); go_simp⟩) hHeld ?_
              simp only [Act.put, List.setIfInBounds_toArray, List.set_cons_zero, List.set_cons_succ]
              refine tk (i := 4) (N := 97) (v := .pointer (some ⟨w.heap.size + 1 + 1, 0, none⟩)) rfl rfl (by kernel_rfl) (by kernel_rfl) (by kernel_rfl) (fun _ _ _ h => h) (Or.inl ⟨by rfl, fun w' hS => by (try simp only at hS); go_simp⟩) hHeld ?_
              simp only [Act.put, List.setIfInBounds_toArray, List.set_cons_zero, List.set_cons_succ]
              refine tk (i := 5) (N := 98) (v := .slice (some A6) pk.length c6) rfl rfl (by kernel_rfl) (by kernel_rfl) (by kernel_rfl) (fun _ _ _ h => h) (Or.inl ⟨by rfl, fun w' hS => by (try simp only at hS); go_simp⟩) hHeld ?_
              simp only [Act.put, List.setIfInBounds_toArray, List.set_cons_zero, List.set_cons_succ]
              refine wpAnyH_ready (rs := [6]) (by kernel_rfl) (by simp) ?_
              refine AllReadyH.cons (o := _) rfl (fun K hK => ?_) AllReadyH.nil
              rw [if_pos (by rfl)]
              go_simp
              refine HCMP.out.mono ?_
              rintro e _ ⟨rfl, rfl⟩
              refine Shut.out hK _ _ rfl (fun hHeld => ?_)
              clear hK K
              try simp only [Act.put, List.setIfInBounds_toArray, List.set_cons_zero, List.set_cons_succ]
              refine tk (i := 7) (N := 100) (v := .bool false) rfl rfl (by kernel_rfl) (by kernel_rfl) (by kernel_rfl) (fun _ _ _ h => h) (Or.inl ⟨by rfl, fun w' hS => by (try simp only at hS); go_simp⟩) hHeld ?_
              simp only [Act.put, List.setIfInBounds_toArray, List.set_cons_zero, List.set_cons_succ]
              refine tk (i := 8) (N := 101) (v := .bool false) rfl rfl (by kernel_rfl) (by kernel_rfl) (by kernel_rfl) (fun _ _ _ h => h) (Or.inl ⟨by rfl, fun w' hS => by (try simp only at hS); go_simp⟩) hHeld ?_
              simp only [Act.put, List.setIfInBounds_toArray, List.set_cons_zero, List.set_cons_succ]
              refine tk (i := 9) (N := 102) (v := .bool false) rfl rfl (by kernel_rfl) (by kernel_rfl) (by kernel_rfl) (fun _ _ _ h => h) (Or.inl ⟨by rfl, fun w' hS => by (try simp only at hS); go_simp⟩) hHeld ?_
              simp only [Act.put, List.setIfInBounds_toArray, List.set_cons_zero, List.set_cons_succ]
              refine tk (i := 10) (N := 103) (v := .int .i64 (i : Nat)) rfl rfl (by kernel_rfl) (by kernel_rfl) (by kernel_rfl) (fun _ _ _ h => h) (Or.inl ⟨by rfl, fun w' hS => by (try simp only at hS); go_simp⟩) hHeld ?_
              simp only [Act.put, List.setIfInBounds_toArray, List.set_cons_zero, List.set_cons_succ]
              refine tk (i := 11) (N := 104) (v := .int .i64 ((i : Int) % 8)) rfl rfl (by kernel_rfl) (by kernel_rfl) (by kernel_rfl) (fun _ _ _ h => h) (Or.inl ⟨by rfl, fun w' hS => by (try simp only at hS); go_simp⟩) hHeld ?_
              simp only [Act.put, List.setIfInBounds_toArray, List.set_cons_zero, List.set_cons_succ]
              refine tk (i := 12) (N := 105) (v := .bool false) rfl rfl (by kernel_rfl) (by kernel_rfl) (by kernel_rfl) (fun _ _ _ h => h) (Or.inl ⟨by rfl, fun w' hS => by (try simp only at hS); go_simp⟩) hHeld ?_
              simp only [Act.put, List.setIfInBounds_toArray, List.set_cons_zero, List.set_cons_succ]
              refine tk (i := 13) (N := 106) (v := .bool false) rfl rfl (by kernel_rfl) (by kernel_rfl) (by kernel_rfl) (fun _ _ _ h => h) (Or.inl ⟨by rfl, fun w' hS => by (try simp only at hS); go_simp⟩) hHeld ?_
              simp only [Act.put, List.setIfInBounds_toArray, List.set_cons_zero, List.set_cons_succ]
              refine tk (i := 14) (N := 107) (v := undef) rfl rfl (by kernel_rfl) (by kernel_rfl) (by kernel_rfl) (fun _ _ _ h => h) (Or.inr ⟨by rfl, rfl⟩) hHeld ?_
              simp only [Act.put, List.setIfInBounds_toArray, List.set_cons_zero, List.set_cons_succ]
              refine tk (i := 15) (N := 108) (v := undef) rfl rfl (by kernel_rfl) (by kernel_rfl) (by kernel_rfl) (fun _ _ _ h => h) (Or.inr ⟨by rfl, rfl⟩) hHeld ?_
              simp only [Act.put, List.setIfInBounds_toArray, List.set_cons_zero, List.set_cons_succ]
              refine tk (i := 16) (N := 109) (v := undef) rfl rfl (by kernel_rfl) (by kernel_rfl) (by kernel_rfl) (fun _ _ _ h => h) (Or.inr ⟨by rfl, rfl⟩) hHeld ?_
              simp only [Act.put, List.setIfInBounds_toArray, List.set_cons_zero, List.set_cons_succ]
              refine tk (i := 17) (N := 110) (v := undef) rfl rfl (by kernel_rfl) (by kernel_rfl) (by kernel_rfl) (fun _ _ _ h => h) (Or.inr ⟨by rfl, rfl⟩) hHeld ?_
              simp only [Act.put, List.setIfInBounds_toArray, List.set_cons_zero, List.set_cons_succ]
              refine tk (i := 18) (N := 111) (v := undef) rfl rfl (by kernel_rfl) (by kernel_rfl) (by kernel_rfl) (fun _ _ _ h => h) (Or.inr ⟨by rfl, rfl⟩) hHeld ?_
              simp only [Act.put, List.setIfInBounds_toArray, List.set_cons_zero, List.set_cons_succ]
              refine tk (i := 19) (N := 112) (v := undef) rfl rfl (by kernel_rfl) (by kernel_rfl) (by kernel_rfl) (fun _ _ _ h => h) (Or.inr ⟨by rfl, rfl⟩) hHeld ?_
              simp only [Act.put, List.setIfInBounds_toArray, List.set_cons_zero, List.set_cons_succ]
              refine tk (i := 20) (N := 113) (v := undef) rfl rfl (by kernel_rfl) (by kernel_rfl) (by kernel_rfl) (fun _ _ _ h => h) (Or.inr ⟨by rfl, rfl⟩) hHeld ?_
              simp only [Act.put, List.setIfInBounds_toArray, List.set_cons_zero, List.set_cons_succ]
              refine tk (i := 21) (N := 114) (v := .bool false) rfl rfl (by kernel_rfl) (by kernel_rfl) (by kernel_rfl) (fun _ _ _ h => h) (Or.inl ⟨by rfl, fun w' hS => by (try simp only at hS); go_simp⟩) hHeld ?_
              simp only [Act.put, List.setIfInBounds_toArray, List.set_cons_zero, List.set_cons_succ]
              refine tk (i := 22) (N := 115) (v := .bool false) rfl rfl (by kernel_rfl) (by kernel_rfl) (by kernel_rfl) (fun _ _ _ h => h) (Or.inl ⟨by rfl, fun w' hS => by (try simp only at hS); go_simp⟩) hHeld ?_
              simp only [Act.put, List.setIfInBounds_toArray, List.set_cons_zero, List.set_cons_succ]
              refine wpAnyH_done (by kernel_rfl) ?_ _
              refine NoPanic.normal ?_
              go_wp2_with fail
              go_meet
              case rel => exact ⟨rfl, HF9.out.drew⟩
            · have t5 : decide ((0 : Int) < (i : Int) % 8) = true := decide_eq_true (by omega)
              have e9 : (i : Int).tmod 8 = (i : Int) % 8 := Int.tmod_eq_emod_of_nonneg (by omega)
              have hcn := HN9.out h8
              rw [hcn] at HCOM
              clear h8 h0 hcn
              go_region_held3 (fun w' => w'.cell? ⟨w.heap.size + 1 + 1, 0, none⟩ = some (.slice (some A6) pk.length c6) ∧ w'.cell? ⟨w.heap.size + 1, 0, none⟩ = some (.int .i64 (n : Nat))) (go_keep) (first
                | (go_at_call 44; refine HCMP.out.mono ?_; rintro e _ ⟨rfl, rfl⟩)
                | (go_at_call 55; refine HCOM.out.mono ?_; rintro e _ ⟨rfl, nd, rfl⟩))
              go_wp2_with fail
              go_meet
              case rel => exact ⟨rfl, HF9.out.drewN _⟩
        case rest =>
          clear hA9 hP9 hR9 hk9 hv9 hB9 HF9
          obtain ⟨rfl, hA9, hP9, hR9, hk9, hv9, hB9⟩ := hcut
          have p0 : wc.cell? ⟨w.heap.size + 1 + 1, 0, none⟩ = some (.slice (some A6) pk.length c6) := (blk_cell hP9 0).trans rfl
          have p1 : wc.cell? ⟨w.heap.size + 1 + 1, 1, none⟩ = some (.slice (some A8) pv.length c8) := (blk_cell hP9 1).trans rfl
          have a1 : wc.cell? ⟨w.heap.size + 1, 1, none⟩ = some (.int .i64 (m : Nat)) := (blk_cell hA9 1).trans rfl
          have a2 : wc.cell? ⟨w.heap.size + 1, 2, none⟩ = some (.int .i64 (pv.length : Nat)) := (blk_cell hA9 2).trans rfl
          have r0 : wc.cell? ⟨w.heap.size, 0, none⟩ = some (.slice none 0 0) := (blk_cell hR9 0).trans rfl
          have r1 : wc.cell? ⟨w.heap.size, 1, none⟩ = some (.slice none 0 0) := (blk_cell hR9 1).trans rfl
          have f0 := blk_frozen hR9 0
          have f1 := blk_frozen hR9 1
          go_wp2_with (first | go_step3 | fail)
          have hrest : R.length - (m + pv.length) = rest.length := by rw [HR.out]; simp only [List.length_append, List.length_drop]; have := HM.out; omega
          have qd : ∀ W : World, (Instr.slice 23 (.slice (some Aq) R.length cq) (some (.int .i64 ((m : Nat) + (pv.length : Nat)))) none none).run Try.prog W = .ok (.slice (some (cutA Aq (m + pv.length) cq)) rest.length (cq - (m + pv.length))) W := fun W => by
            rw [← hrest]; exact cut_lo Aq R.length cq (m + pv.length) _ (by omega) hmv W
          have hrr : RdB w (some (cutA Aq (m + pv.length) cq)) rest := by
            have := cutA_rd (i := m + pv.length) HRQ.out hcq
            rwa [show R.drop (m + pv.length) = rest by rw [HR.out, ← List.append_assoc, List.drop_append_of_le_length (by rw [List.length_append, List.length_drop]; have := HM.out; omega), List.drop_of_length_le (by rw [List.length_append, List.length_drop]; have := HM.out; omega), List.nil_append]] at this
          have HRR := Aside0.mk hrr
          have HRE := Aside0.mk hrest
          clear hrr hrest
          have hne2 : w.heap.size ≠ w.heap.size + 1 + 1 := by omega
          have hne1 : w.heap.size ≠ w.heap.size + 1 := by omega
          have s1 : IntKind.i64.wrap (((m : Nat) : Int) + ((pv.length : Nat) : Int)) = ((m : Nat) : Int) + ((pv.length : Nat) : Int) := by rw [IntKind.wrap_i64]; omega
          have s2 : wrap64 (((m : Nat) : Int) + ((pv.length : Nat) : Int)) = ((m : Nat) : Int) + ((pv.length : Nat) : Int) := by unfold wrap64; omega
          go_region_held3 (fun w' => w'.cell? ⟨w.heap.size + 1 + 1, 0, none⟩ = some (.slice (some A6) pk.length c6) ∧ w'.cell? ⟨w.heap.size + 1 + 1, 1, none⟩ = some (.slice (some A8) pv.length c8) ∧ w'.cell? ⟨w.heap.size + 1, 1, none⟩ = some (.int .i64 (m : Nat)) ∧ w'.cell? ⟨w.heap.size + 1, 2, none⟩ = some (.int .i64 (pv.length : Nat))) (go_keep) (fail)
          all_goals
            clear s1 s2 qd p0 p1 a1 a2 r0 r1 f0 f1
            go_wp2_with (first | go_step3 | fail)
            refine noGoto_ret ?_
            refine bodyPost_ret (results3_row rfl _ _ w.heap.size 75 #[.slice (some A6) pk.length c6, .slice (some A8) pv.length c8] (0, 0) _ rfl (by exact blk_put (blk_put hR9 0 _ rfl) 1 _ rfl) Try.underlying75 rfl (by kernel_rfl)) rfl ?_
            refine ⟨⟨A6, pk, c6, A8, pv, c8⟩, _, _, rfl, rfl, rfl, ⟨own_below (own_set (blk_put hR9 0 _ rfl) (own_set hR9 hk9)) (below_drew (Below.refl _ _)), own_below (own_set (blk_put hR9 0 _ rfl) (own_set hR9 hv9)) (below_drew (Below.refl _ _)), hc6, hc8⟩, HRR.out, by have := HRE.out; omega, (cutA_block _ _ _).trans hbq, bdrew ((hB9.setCell (p := ⟨w.heap.size, 0, none⟩) (Nat.le_refl _) _).setCell (p := ⟨w.heap.size, 1, none⟩) (Nat.le_refl _) _)⟩
end Go.Proofs.Ythabkdbhjioalaa.Top
