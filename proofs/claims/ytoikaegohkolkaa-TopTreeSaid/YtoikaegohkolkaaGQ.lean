/-
  rickyardlaw15.Rules, alive08; conditions: those that each theorem states.
-/
import Derived.Test.YtoikaegohkolkaaGO
import Derived.Test.YtoikaegohkolkaaGH
import Derived.Test.YtoikaegohkolkaaYBase
import Derived.Test.YtoikaegohkolkaaLib2
namespace Go.Proofs.Ytoikaegohkolkaa.Top
set_option linter.unusedSimpArgs false
set_option linter.unusedVariables false
open Go.RowKit Go.Proofs.YtoikaegohkolkaaW.PrintWords Go.Proofs.YtoikaegohkolkaaW.PrintLast Go.Proofs.YtoikaegohkolkaaW.PrintMore Go.Proofs.Ytoikaegohkolkaa.Plain Go.Proofs.Ytoikaegohkolkaa.KFns Go.Proofs.Ytoikaegohkolkaa.Fns
theorem right15 : rightR [(1, 0), (10, 20)] 100 = true := by decide
theorem results1_cell {fn : Func} {p : Tmp} {ty : TypeId} (h : fn.results = #[.cell p ty]) (tmps : Array Value) (P : Program) (w : World) :
    (results fn tmps).run P w = ((asAddr (tmps.getD p undef)).run P w).andThen fun a w₁ => (loadVar ty a).run P w₁ := by
  simp only [results, h]
  simp [Sem.run_bind, Result.andThen]
theorem results1_row {P : Program} {fn : Func} {p : Tmp} {ty : TypeId} (h : fn.results = #[.cell p ty]) (tmps : Array Value) (w : World) (g : Nat) (t : TypeId) (cs : Array Value) (fr : Nat × Nat) (d : TypeDesc)
    (hp : tmps.getD p undef = .pointer (some ⟨g, 0, none⟩)) (hg : w.heap[g]? = some (.cells cs t fr))
    (hu : P.underlying ty = some d) (hd : (match d with | .struct _ | .array _ _ => true | _ => false) = true) (hi : (P.info? ty).map (·.size) = some cs.size) :
    (results fn tmps).run P w = .ok (.agg cs) w := by
  rw [results1_cell h, hp]
  simp [asAddr, run_loadVar_row w g t ty cs fr d hg hu hd hi, Result.andThen]
set_option maxRecDepth 100000 in
set_option maxHeartbeats 4000000 in
theorem rules_c {w : World} : Calls Try.prog 13 #[] w fun e w' => ∃ b c, e = .returned (rulV (some ⟨b, 0, none⟩) ([(1, 0), (10, 20)] : Gr).length c 100) ∧ GRow w' b 0 [(1, 0), (10, 20)] ∧ Below w.heap.size w w' := by
  go_enter Try.func13, Try.ntmps13
  go_wp2_with fail
  have hB1 := (Below.refl _ w).alloc (Nat.le_refl _) (.cells #[.slice (some ⟨w.heap.size + 1, 0, none⟩) 2 2, .int .i64 100] 24)
  have hN1 := al_new (W := w) (o := .cells #[.slice (some ⟨w.heap.size + 1, 0, none⟩) 2 2, .int .i64 100] 24) (k := w.heap.size) rfl
  have hN2 := al_new (W := w.alloc (.cells #[.slice (some ⟨w.heap.size + 1, 0, none⟩) 2 2, .int .i64 100] 24)) (o := .cells #[.int .i64 1, .int .i64 0, .int .i64 10, .int .i64 20] 79) (k := w.heap.size + 1) (by rw [World.size_alloc])
  have hB2 := hB1.alloc (by rw [World.size_alloc]; omega) (.cells #[.int .i64 1, .int .i64 0, .int .i64 10, .int .i64 20] 79)
  refine bodyPost_ret (results1_row rfl _ _ w.heap.size 24 _ (0, 0) _ rfl (al_old hN1 _) Try.underlying24 rfl (by kernel_rfl)) rfl ?_
  refine ⟨w.heap.size + 1, 2, rfl, fun j hj => ?_, hB2⟩
  match j, hj with
  | 0, _ => exact ⟨(blk_cell hN2 0).trans rfl, (blk_cell hN2 1).trans rfl⟩
  | 1, _ => exact ⟨(blk_cell hN2 2).trans rfl, (blk_cell hN2 3).trans rfl⟩
theorem ka_nil {outs : List Ent} (h : outs.map Ent.ka = []) : outs = [] := List.map_eq_nil_iff.1 h
set_option maxRecDepth 100000 in
set_option maxHeartbeats 8000000 in
theorem alive_c (w : World) : Calls Try.prog 5 #[] w fun e w' => e = .returned (.bool true) ∧ Below w.heap.size w w' := by
  have hB1 := (Below.refl _ w).alloc (Nat.le_refl _) (.cells #[.int .i64 1, .int .i64 0, .int .i64 1, .bool true] 47)
  have hN1 := al_new (W := w) (o := .cells #[.int .i64 1, .int .i64 0, .int .i64 1, .bool true] 47) (k := w.heap.size) rfl
  have hrow : RnRow (w.alloc (.cells #[.int .i64 1, .int .i64 0, .int .i64 1, .bool true] 47)) w.heap.size [⟨1, 0, 1, true⟩] := fun j hj m u hu => by
    obtain rfl : j = 0 := by simp at hj; omega
    rw [Nat.zero_mul, Nat.zero_add, blk_cell hN1 m]
    simpa [Rn.cells] using hu
  have hof := offer_c (c := 1) (R := some ⟨w.heap.size, 0, none⟩) (fun _ => rfl) hrow (rnok_one (by simp) (by simp) (by simp)) (by simp)
  have HOF := Aside0.mk hof
  have HB1 := Aside0.mk hB1
  clear hB1 hN1 hrow hof
  generalize hw1 : w.alloc (.cells #[.int .i64 1, .int .i64 0, .int .i64 1, .bool true] 47) = w1 at *
  have HW1 := Aside0.mk hw1
  clear hw1
  go_enter Try.func5, Try.ntmps5
  go_wp2_with (first
    | (go_at_call 8
       rw [HW1.out]
       refine HOF.out.mono ?_
       rintro e w2 ⟨b, c, rfl, _, _, hb2⟩
       have HB2 := Aside0.mk hb2
       clear hb2)
    | (go_at_call 13
       refine rules_c.mono ?_
       rintro e w3 ⟨b3, c3, rfl, hg3, hb3⟩
       have hfo := ffold_c (c := c3) (c2 := 0) (R2 := none) (b2 := 0) (o2 := 0) (keep := 100) (m := 0) (es := []) (fun _ => rfl) hg3 (by simp) (fun h => absurd rfl h) ⟨fun j hj => by simp at hj, fun x hx => by cases hx⟩ (by simp) (fun x hx => by cases hx) (fun x hx => by cases hx)
       have HFO := Aside0.mk hfo
       have HB3 := Aside0.mk hb3
       unfold rulV at HFO ⊢
       clear hfo hg3 hb3)
    | (go_at_call 12
       refine HFO.out.mono ?_
       rintro e w4 ⟨v4, outs, rfl, hb4, _, hf4⟩
       have hck : chk [(1, 0), (10, 20)] 100 0 [] = 0 := by rw [chk_ka]; exact (KvG.nil right15 (by unfold TmOk; omega)).chk
       have hff := hf4 hck
       rw [hck]
       obtain rfl := ka_nil (by rw [hff.kv]; rfl : outs.map Ent.ka = [])
       obtain ⟨A4, c4, rfl, _⟩ := row_slice hff.own
       have HB4 := Aside0.mk hb4
       have HAL := Aside0.mk (mall_c (w := w4) (RR := none) (rb := 0) (ro := 0) (rc := 0) (rows := []) (fun h => absurd rfl h) (fun j hj => by simp at hj) (by simp) (by simp))
       clear hf4 hff hck hb4)
    | (go_at_call 14
       refine HAL.out.mono ?_
       rintro e w5 ⟨v5, outs5, rfl, ho5, hk5, _, _, _, hb5⟩
       obtain rfl := ka_nil (by rw [hk5]; rfl : outs5.map Ent.ka = [])
       obtain ⟨A5, c5, rfl, _⟩ := row_slice ho5
       have HB5 := Aside0.mk hb5
       clear ho5 hk5 hb5)
    | fail)
  go_ret
  have h2 := HB1.out.trans (HB2.out.mono HB1.out.size)
  have h3 := h2.alloc h2.size (.cells #[.slice (some ⟨b, 0, none⟩) 1 c, .int .i64 0] 38)
  have h4 := h3.trans (HB3.out.mono h3.size)
  have h5 := h4.trans (HB4.out.mono h4.size)
  exact ⟨rfl, h5.trans (HB5.out.mono h5.size)⟩
end Go.Proofs.Ytoikaegohkolkaa.Top
namespace Go.Proofs.Ytoikaegohkolkaa.Top
set_option linter.unusedSimpArgs false
set_option linter.unusedVariables false
open Go.RowKit Go.Proofs.YtoikaegohkolkaaW.PrintWords Go.Proofs.YtoikaegohkolkaaW.PrintLast Go.Proofs.YtoikaegohkolkaaW.PrintMore Go.Proofs.Ytoikaegohkolkaa.Plain Go.Proofs.Ytoikaegohkolkaa.Fns
set_option maxHeartbeats 2000000 in
set_option maxRecDepth 100000 in
theorem same_c {w : World} {R1 R2 : Option Addr} {b1 b2 c d : Nat} {xs ys : List Ent} (hR1 : xs ≠ [] → R1 = some ⟨b1, 0, none⟩) (hR2 : ys ≠ [] → R2 = some ⟨b2, 0, none⟩) (h1 : EnRow w b1 0 xs) (h2 : EnRow w b2 0 ys) (hka : xs.map Ent.ka = ys.map Ent.ka) (hn : xs.length ≤ 4096) (hby : ∀ x ∈ xs, Byt x.k ∧ x.k.length ≤ 1000000) :
    Calls Try.prog 10 #[.slice R1 xs.length c, .slice R2 ys.length d] w fun e w' => e = .returned (.bool true) ∧ Below w.heap.size w w' := by
  have hl : ys.length = xs.length := by have := congrArg List.length hka; simpa using this.symm
  rw [hl]
  have H1 := Aside0.mk h1
  have H2 := Aside0.mk h2
  have HKA := Aside0.mk hka
  have HL := Aside0.mk hl
  have HR1 := Aside0.mk hR1
  have HR2 := Aside0.mk hR2
  have HBY := Aside0.mk hby
  clear h1 h2 hka hl hR1 hR2 hby
  go_enter Try.func10, Try.ntmps10
  go_wp2_with fail
  go_loopw [5] (fun iv wr => ∃ j : Nat, j ≤ xs.length ∧ iv = .int .i64 j ∧ Below w.heap.size w wr) (fun iv _ => xs.length - (intOf iv).toNat)
  case atStart => exact ⟨0, by omega, rfl, Below.refl _ _⟩
  case round =>
    obtain ⟨j, hj, rfl, hB⟩ := hrel
    by_cases hlt : j < xs.length
    · have t1 : decide (j < xs.length) = true := decide_eq_true hlt
      have hlt2 : j < ys.length := by rw [HL.out]; exact hlt
      have g0 : (0 : Int) ≤ (j : Int) := by omega
      have g1 : (j : Int) < (xs.length : Int) := by omega
      have g2 : j < xs.length := hlt
      obtain rfl := HR1.out (by intro e; rw [e] at hlt; simp at hlt)
      obtain rfl := HR2.out (by intro e; rw [e] at hlt2; simp at hlt2)
      have hE1 := H1.out.below hB
      have hE2 := H2.out.below hB
      obtain ⟨x0, x1, x2, x3, x4, x5, x6⟩ := hE1.cells hlt
      obtain ⟨y0, y1, y2, y3, y4, y5, y6⟩ := hE2.cells hlt2
      simp only [Nat.zero_add] at x0 x1 x2 x3 x4 x5 x6 y0 y1 y2 y3 y4 y5 y6
      have hr1 := hE1.rd _ (List.getElem_mem hlt)
      have hr2 := hE2.rd _ (List.getElem_mem hlt2)
      have hbk := HBY.out _ (List.getElem_mem hlt)
      have hej : xs[j].ka = ys[j].ka := by
        have e1 : (xs.map Ent.ka)[j]? = (ys.map Ent.ka)[j]? := by rw [HKA.out]
        rw [List.getElem?_map, List.getElem?_map, List.getElem?_eq_getElem hlt, List.getElem?_eq_getElem hlt2] at e1
        simpa using e1
      generalize xs[j] = x at *
      generalize ys[j] = y at *
      obtain ⟨xA, xc, xk, xa⟩ := x
      obtain ⟨yA, yc, yk, ya⟩ := y
      simp only [Ent.ka, Prod.mk.injEq] at hej
      obtain ⟨rfl, rfl⟩ := hej
      obtain ⟨ac, ao, ah, al, an, ax⟩ := xa
      simp only at x0 x1 x2 x3 x4 x5 x6 y0 y1 y2 y3 y4 y5 y6 hbk
      obtain ⟨hrk1, hrc1⟩ := hr1
      obtain ⟨hrk2, hrc2⟩ := hr2
      simp only at hrk1 hrc1 hrk2 hrc2
      clear hE1 hE2 hlt hlt2
      have hcv3 := Kd.C_string (P := Try.prog) (A := xA) (c := xc) Try.underlying49 Try.underlying5 Try.underlying9 (hrk1.below (below_drew (Below.refl _ _)))
      have hcv4 := Kd.C_string (P := Try.prog) (A := yA) (c := yc) Try.underlying49 Try.underlying5 Try.underlying9 (hrk2.below (below_drew (Below.refl _ _)))
      go_wp2_with fail
      go_region_held3 (fun w' => w'.cell? ⟨b1, j * 7, none⟩ = some (.slice xA xk.length xc) ∧ w'.cell? ⟨b1, j * 7 + 1, none⟩ = some (.int .u64 ac) ∧ w'.cell? ⟨b1, j * 7 + 2, none⟩ = some (.bool ao) ∧ w'.cell? ⟨b1, j * 7 + 3, none⟩ = some (.int .i64 ah) ∧ w'.cell? ⟨b1, j * 7 + 4, none⟩ = some (.int .u64 al) ∧ w'.cell? ⟨b1, j * 7 + 5, none⟩ = some (.int .i64 an) ∧ w'.cell? ⟨b1, j * 7 + 6, none⟩ = some (.int .i64 ax) ∧ w'.cell? ⟨b2, j * 7, none⟩ = some (.slice yA xk.length yc) ∧ w'.cell? ⟨b2, j * 7 + 1, none⟩ = some (.int .u64 ac) ∧ w'.cell? ⟨b2, j * 7 + 2, none⟩ = some (.bool ao) ∧ w'.cell? ⟨b2, j * 7 + 3, none⟩ = some (.int .i64 ah) ∧ w'.cell? ⟨b2, j * 7 + 4, none⟩ = some (.int .u64 al) ∧ w'.cell? ⟨b2, j * 7 + 5, none⟩ = some (.int .i64 an) ∧ w'.cell? ⟨b2, j * 7 + 6, none⟩ = some (.int .i64 ax) ∧ (convert 49 9 (.slice xA xk.length xc)).run Try.prog w' = .ok (.string (strOfNums xk)) w' ∧ (convert 49 9 (.slice yA xk.length yc)).run Try.prog w' = .ok (.string (strOfNums xk)) w') (go_keep) (fail)
      go_wp2_with fail
      exact ⟨⟨j + 1, by omega, by go_num, bdrew hB⟩, by simp [intOf]; omega⟩
    · obtain rfl : j = xs.length := by omega
      have t1 : decide (xs.length < xs.length) = false := decide_eq_false hlt
      go_wp2_with fail
      go_ret
      exact ⟨rfl, hB⟩
theorem great_l {l : List Lib.S56} (hl : (l.length : Int) ≤ 9223372036854775807) : ∀ (n j : Nat), j ≤ l.length → l.length - j ≤ n → ∃ r, Lib.rickyardlaw15_Great.l0 (n + 1) l (j : Int) = some r ∧ (r = false → ∀ i, j ≤ i → (h : i < l.length) → l[i].f0.length ≤ 300)
  | 0, j, hj, hn => ⟨false, by unfold Lib.rickyardlaw15_Great.l0; rw [if_neg (by omega)], fun _ i h1 h2 => by omega⟩
  | n + 1, j, hj, hn => by
    unfold Lib.rickyardlaw15_Great.l0
    by_cases h : (j : Int) < (l.length : Int)
    · rw [if_pos h, if_pos (by omega)]
      have e : Lib.rd_T56 l (j : Int) = l[j]'(by omega) := by
        unfold Lib.rd_T56
        have hj' : j < l.length := by omega
        simp [List.getD, hj']
      by_cases h2 : (((Lib.rd_T56 l (j : Int)).f0).length : Int) > 300
      · exact ⟨true, by rw [if_pos h2], fun h => by cases h⟩
      · rw [if_neg h2, show wrap64 ((j : Int) + 1) = ((j + 1 : Nat) : Int) by unfold wrap64; omega]
        obtain ⟨r, h3, h4⟩ := great_l hl n (j + 1) (by omega) (by omega)
        refine ⟨r, h3, fun hr i h5 h6 => ?_⟩
        by_cases hij : i = j
        · subst hij
          rw [e] at h2
          omega
        · exact h4 hr i (by omega) h6
    · exact ⟨false, by rw [if_neg h], fun _ i h1 h2 => by omega⟩
theorem great_f {l : List Lib.S56} (hl : (l.length : Int) ≤ 9223372036854775807) : ∃ r, Lib.rickyardlaw15_Great.f (l.length + 2) l = some r ∧ (r = false → l.length ≤ 60 ∧ ∀ i, (h : i < l.length) → l[i].f0.length ≤ 300) := by
  unfold Lib.rickyardlaw15_Great.f
  by_cases h1 : (l.length : Int) > 60
  · exact ⟨true, by rw [if_pos h1], fun h => by cases h⟩
  · rw [if_neg h1]
    obtain ⟨r, hr, hk⟩ := great_l hl (l.length + 1) 0 (by omega) (by omega)
    exact ⟨r, hr, fun h => ⟨by omega, fun i hi => hk h i (Nat.zero_le _) hi⟩⟩
theorem great_c {l : List Lib.S56} (hl : (l.length : Int) ≤ 9223372036854775807) : ∃ r, (∀ (A : Option Addr) (c : Nat) (w : World), RdE w A l → l.length ≤ c → Calls Try.prog 4 #[.slice A l.length c] w fun e w' => e = .returned (.bool r) ∧ Below w.heap.size w w') ∧ (r = false → l.length ≤ 60 ∧ ∀ i, (h : i < l.length) → l[i].f0.length ≤ 300) := by
  obtain ⟨r, hr, hk⟩ := great_f (l := l) hl
  exact ⟨r, fun A c w hA hc => (Lib.rickyardlaw15_Great.calls _ A c l r w hA hc hr).mono fun e w' ⟨he, hd⟩ => ⟨he, hd.below⟩, hk⟩
end Go.Proofs.Ytoikaegohkolkaa.Top
