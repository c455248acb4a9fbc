/-
  merge.Heap's sink; conditions: those that each theorem states.
-/
import Derived.Test.YtoikaegohkolkaaGL
namespace Go.Proofs.Ytoikaegohkolkaa.Top
set_option linter.unusedSimpArgs false
set_option linter.unusedVariables false
open Go.RowKit Go.Proofs.YtoikaegohkolkaaW.PrintWords Go.Proofs.YtoikaegohkolkaaW.PrintLast Go.Proofs.YtoikaegohkolkaaW.PrintMore Go.Proofs.Ytoikaegohkolkaa.Plain Go.Proofs.Ytoikaegohkolkaa.KFns Go.Proofs.Ytoikaegohkolkaa.Fns
/-- The least of a front and the first t of those below it. -/
def lst (fs : List Fr) (a : Nat) : Nat → Nat
  | 0 => a
  | t + 1 => least1 fs (2 * a + 1 + t) (lst fs a t)
theorem lst_is (fs : List Fr) (a : Nat) : ∀ t, lst fs a t = a ∨ (a < lst fs a t ∧ lst fs a t < fs.length)
  | 0 => .inl rfl
  | t + 1 => by
    unfold lst
    rcases least1_is fs (2 * a + 1 + t) (lst fs a t) with h | ⟨h, h'⟩
    · rw [h]; exact lst_is fs a t
    · rw [h]; exact .inr ⟨by omega, h'⟩
theorem lst_end (fs : List Fr) (a t : Nat) (ht : t ≤ 2) (h : t = 2 ∨ fs.length ≤ 2 * a + 1 + t) : lst fs a t = least fs a := by
  have e2 : lst fs a 2 = least fs a := rfl
  have e1 : ∀ m, fs.length ≤ 2 * a + 2 → least1 fs (2 * a + 2) m = m := fun m h => by unfold least1; rw [if_neg (by omega)]
  have e0 : ∀ m, fs.length ≤ 2 * a + 1 → least1 fs (2 * a + 1) m = m := fun m h => by unfold least1; rw [if_neg (by omega)]
  match t, ht with
  | 0, _ => unfold least; rw [e0 _ (by omega), e1 _ (by omega)]; rfl
  | 1, _ => unfold least; rw [e1 _ (by omega)]; rfl
  | 2, _ => exact e2
theorem grow_below {A B : World} (h : Below A.heap.size A B) (row : Option Nat) : A.grownBy B row := ⟨h.os, h.tape, h.output, h.size, fun k hk _ => h.block k hk⟩
theorem HpI.swap_gr {hb g cp a m : Nat} {w0 W : World} {fs : List Fe} (h : HpI hb w0 fs (.slice (some ⟨g, 0, none⟩) fs.length cp) W) (ha : a < fs.length) (hm : m < fs.length) :
    W.grownBy ((((W.setCell ⟨g, a * 2, none⟩ (.slice (some ⟨fs[m].b, fs[m].o, none⟩) fs[m].es.length fs[m].cp)).setCell ⟨g, a * 2 + 1, none⟩ (.int .i64 fs[m].p)).setCell ⟨g, m * 2, none⟩ (.slice (some ⟨fs[a].b, fs[a].o, none⟩) fs[a].es.length fs[a].cp)).setCell ⟨g, m * 2 + 1, none⟩ (.int .i64 fs[a].p)) (some g) := by
  have h1 := h.own.stored (a * 2) (.slice (some ⟨fs[m].b, fs[m].o, none⟩) fs[m].es.length fs[m].cp)
  have h2 := h1.1.stored (a * 2 + 1) (.int .i64 fs[m].p)
  have h3 := h2.1.stored (m * 2) (.slice (some ⟨fs[a].b, fs[a].o, none⟩) fs[a].es.length fs[a].cp)
  have h4 := h3.1.stored (m * 2 + 1) (.int .i64 fs[a].p)
  exact ((h1.2.trans h2.2).trans h3.2).trans h4.2
set_option maxRecDepth 100000 in
set_option maxHeartbeats 8000000 in
theorem msink_c {w0 w : World} {hb a : Nat} {fs : List Fe} {v : Value} (h : HpI hb w0 fs v w) (hn : fs.length ≤ 1000) (ha : a ≤ fs.length) :
    Calls Try.prog 55 #[.pointer (some ⟨hb, 0, none⟩), .int .i64 a] w fun e w' => ∃ fs', e = .returned (.tuple #[]) ∧ HpI hb w0 fs' v w' ∧ fs'.map Fe.fr = snk (fs.map Fe.fr) a ∧ fs'.length = fs.length ∧ w.grownBy w' v.ownBlock := by
  have H := Aside0.mk h
  clear h
  go_enter Try.func55, Try.ntmps55
  go_wp2_with (first | go_step3 | fail)
  go_loopw [1] (fun av wr => ∃ (i : Nat) (gs : List Fe), av = .int .i64 i ∧ i ≤ gs.length ∧ gs.length = fs.length ∧ Aside0 (HpI hb w0 gs v wr ∧ w.grownBy wr v.ownBlock) ∧ Aside0 (snk (gs.map Fe.fr) i = snk (fs.map Fe.fr) a)) (fun av _ => fs.length - (intOf av).toNat)
  case atStart => exact ⟨a, fs, rfl, ha, rfl, ⟨H.out, grow_below (Below.refl _ _) _⟩, ⟨rfl⟩⟩
  case round =>
    obtain ⟨i, gs, rfl, hi, hl, HG, HS⟩ := hrel
    have HK := Aside0.mk HG.out.2
    replace HG := Aside0.mk HG.out.1
    clear H
    have hgn : gs.length ≤ 1000 := by omega
    have HLN := Aside0.mk hl
    clear hl
    go_wp2_with fail
    go_loopw [4, 5] (fun lv kv wr => ∃ (t : Nat), t ≤ 2 ∧ kv = .int .i64 ((2 * i + 1 + t : Nat) : Int) ∧ lv = .int .i64 (lst (gs.map Fe.fr) i t) ∧ Aside0 (HpI hb w0 gs v wr ∧ w.grownBy wr v.ownBlock)) (fun _ kv _ => 2 * i + 3 - (intOf kv).toNat)
    case atStart => exact ⟨0, by omega, by go_num, rfl, ⟨HG.out, HK.out⟩⟩
    case round =>
      clear HG HK
      obtain ⟨t, ht, rfl, rfl, HG⟩ := hrel
      have HK := Aside0.mk HG.out.2
      replace HG := Aside0.mk HG.out.1
      have hl0 := lst_is (gs.map Fe.fr) i t
      rw [List.length_map] at hl0
      have hle := lst_end (gs.map Fe.fr) i t ht
      rw [List.length_map] at hle
      have HLE := Aside0.mk hle
      obtain ⟨A, g, cp, rfl, hlc, hA, hcell⟩ := HG.out.row
      have x0 : wr.cell? ⟨hb, 0, none⟩ = some (.slice A gs.length cp) := (blk_cell HG.out.box 0).trans rfl
      by_cases hk : 2 * i + 1 + t < gs.length ∧ t < 2
      · obtain ⟨hk, ht2⟩ := hk
        have t1 : decide (((2 * i + 1 + t : Nat) : Int) ≤ 2 * (i : Int) + 2) = true := decide_eq_true (by omega)
        have t2 : decide (((2 * i + 1 + t : Nat) : Int) < (gs.length : Int)) = true := decide_eq_true (by omega)
        have hll : lst (gs.map Fe.fr) i t < gs.length := by omega
        obtain ⟨rfl, hg1, hg2⟩ := hA (by intro e; rw [e] at hk; simp at hk)
        have hst : lst (gs.map Fe.fr) i (t + 1) = if lessFr gs[2 * i + 1 + t].fr gs[lst (gs.map Fe.fr) i t].fr = true then 2 * i + 1 + t else lst (gs.map Fe.fr) i t := by
          show least1 _ _ _ = _
          unfold least1
          rw [if_pos (by simpa using hk), frAt_eq (by simpa using hk), frAt_eq (by simpa using hll)]
          simp
        obtain ⟨a0, a1, _, _⟩ := hcell _ hk
        obtain ⟨b0, b1, _, _⟩ := hcell _ hll
        have hok1 := HG.out.ok _ (List.getElem_mem hk)
        have hok2 := HG.out.ok _ (List.getElem_mem hll)
        have HST := Aside0.mk hst
        clear hst hcell hA hle hl0
        generalize lst (gs.map Fe.fr) i t = l at *
        generalize gs[2 * i + 1 + t] = f1 at *
        generalize gs[l] = f2 at *
        have hcl : ∀ W, Below wr.heap.size wr W → Calls Try.prog 82 #[f1.v, f2.v] W fun e w' => e = .returned (.bool (lessFr f1.fr f2.fr)) ∧ Below wr.heap.size wr w' := fun W hW =>
          (mless_c (hok1.below (HG.out.be.trans (hW.mono HG.out.be.size))) (hok2.below (HG.out.be.trans (hW.mono HG.out.be.size)))).mono fun e w' ⟨h1, h2⟩ => ⟨h1, hW.trans (h2.mono hW.size)⟩
        unfold Fe.v at hcl
        have g1 : ((2 * i + 1 + t : Nat) : Int) < (gs.length : Int) := by omega
        have g2 : (l : Int) < (gs.length : Int) := by omega
        generalize lessFr f1.fr f2.fr = q at *
        have HCL := Aside0.mk hcl
        clear hcl hok1 hok2
        generalize hkd : 2 * i + 1 + t = k at *
        have HKD := Aside0.mk hkd
        clear hkd
        go_wp2_with fail
        cases q with
        | true =>
          go_region_with (first | (go_at_call 82; refine (HCL.out _ (by (repeat' (first | with_reducible exact Below.refl _ _ | with_reducible assumption | with_reducible apply bdrew | with_reducible apply bdrewN | with_reducible apply balloc | with_reducible refine bset ?_ (Nat.le_refl _))))).mono ?_; rintro e w6 ⟨rfl, hb6⟩))
          all_goals
            go_wp2_with fail
            have hkd := HKD.out
            refine ⟨⟨t + 1, by omega, by congr 1; omega, by rw [HST.out]; rfl, ⟨HG.out.below hb6, HK.out.trans (grow_below hb6 _)⟩⟩, by simp [intOf]; omega⟩
        | false =>
          go_region_with (first | (go_at_call 82; refine (HCL.out _ (by (repeat' (first | with_reducible exact Below.refl _ _ | with_reducible assumption | with_reducible apply bdrew | with_reducible apply bdrewN | with_reducible apply balloc | with_reducible refine bset ?_ (Nat.le_refl _))))).mono ?_; rintro e w6 ⟨rfl, hb6⟩))
          all_goals
            go_wp2_with fail
            have hkd := HKD.out
            refine ⟨⟨t + 1, by omega, by congr 1; omega, by rw [HST.out]; rfl, ⟨HG.out.below hb6, HK.out.trans (grow_below hb6 _)⟩⟩, by simp [intOf]; omega⟩
      · have e : lst (gs.map Fe.fr) i t = least (gs.map Fe.fr) i := hle (by omega)
        rw [e] at hl0
        have HE := Aside0.mk e
        clear hle
        have hq := snk_eq (gs.map Fe.fr) i
        rw [e]
        generalize least (gs.map Fe.fr) i = m at *
        by_cases hm : m = i
        · have hm' := hm.symm
          clear hm
          subst hm'
          rw [if_pos rfl] at hq
          have HQ := Aside0.mk hq
          clear hq e
          by_cases ht2 : t = 2
          · subst ht2
            have t1 : decide (((2 * i + 1 + 2 : Nat) : Int) ≤ 2 * (i : Int) + 2) = false := decide_eq_false (by omega)
            go_wp2_with (first | go_step3 | fail)
            exact bodyPost_end (by kernel_rfl) rfl ⟨rfl, gs, HG.out, by rw [← HS.out, HQ.out], HLN.out, HK.out⟩
          · have t1 : decide (((2 * i + 1 + t : Nat) : Int) ≤ 2 * (i : Int) + 2) = true := decide_eq_true (by omega)
            have t2 : decide (((2 * i + 1 + t : Nat) : Int) < (gs.length : Int)) = false := decide_eq_false (by omega)
            go_wp2_with (first | go_step3 | fail)
            exact bodyPost_end (by kernel_rfl) rfl ⟨rfl, gs, HG.out, by rw [← HS.out, HQ.out], HLN.out, HK.out⟩
        · rw [if_neg hm] at hq
          have hmi : i < m ∧ m < gs.length := by omega
          obtain ⟨hmi, hml⟩ := hmi
          have hil : i < gs.length := by omega
          obtain ⟨rfl, hg1, hg2⟩ := hA (by intro e; rw [e] at hml; simp at hml)
          obtain ⟨a0, a1, f0, f1⟩ := hcell _ hil
          obtain ⟨b0, b1, f2, f3⟩ := hcell _ hml
          have HQ := Aside0.mk hq
          have HSW := Aside0.mk (HpI.swap HG.out hil hml hg2 hg1)
          have HSG := Aside0.mk (HK.out.trans (HpI.swap_gr HG.out hil hml))
          have HFR := Aside0.mk (swap_fr hil hml)
          have HNG := Aside0.mk (And.intro hg1 hg2)
          have hgh : ¬ hb = g := by omega
          have hgi : (i : Int) < (gs.length : Int) := by omega
          have hgm : (m : Int) < (gs.length : Int) := by omega
          have n1 : ¬ i * 2 = m * 2 := by omega
          have n2 : ¬ m * 2 = i * 2 := by omega
          have n3 : ¬ i * 2 + 1 = m * 2 := by omega
          have n4 : ¬ i * 2 = m * 2 + 1 := by omega
          clear hq e hA hcell
          generalize gs[i] = y1 at *
          generalize gs[m] = y2 at *
          have t3 : ((m : Int) == (i : Int)) = false := by simp; omega
          by_cases ht2 : t = 2
          · subst ht2
            have t1 : decide (((2 * i + 1 + 2 : Nat) : Int) ≤ 2 * (i : Int) + 2) = false := decide_eq_false (by omega)
            go_wp2_with (first | go_step3 | fail)
            go_region
            all_goals
              go_wp2_with fail
              have hln := HLN.out
              refine ⟨⟨m, (gs.set i y2).set m y1, rfl, by simp; omega, by simp; omega, ⟨HSW.out.below (below_drew (Below.refl _ _)), HSG.out.trans (grow_below (below_drew (Below.refl _ _)) _)⟩, ⟨by rw [HFR.out, ← HQ.out, HS.out]⟩⟩, by simp [intOf]; omega⟩
          · have t1 : decide (((2 * i + 1 + t : Nat) : Int) ≤ 2 * (i : Int) + 2) = true := decide_eq_true (by omega)
            have t2 : decide (((2 * i + 1 + t : Nat) : Int) < (gs.length : Int)) = false := decide_eq_false (by omega)
            go_wp2_with (first | go_step3 | fail)
            go_region
            all_goals
              go_wp2_with fail
              have hln := HLN.out
              refine ⟨⟨m, (gs.set i y2).set m y1, rfl, by simp; omega, by simp; omega, ⟨HSW.out.below (below_drew (Below.refl _ _)), HSG.out.trans (grow_below (below_drew (Below.refl _ _)) _)⟩, ⟨by rw [HFR.out, ← HQ.out, HS.out]⟩⟩, by simp [intOf]; omega⟩
/-- A row that is handed in, and where it lies. -/
structure Re where
  A : Option Addr
  b : Nat
  o : Nat
  c : Nat
  es : List Ent
structure Re.ok (W : World) (r : Re) : Prop where
  at_ : r.es ≠ [] → r.A = some ⟨r.b, r.o, none⟩
  row : EnRow W r.b r.o r.es
  rt : RowR r.es
  le : r.es.length ≤ r.c
  cap : r.c ≤ 9223372036854775807
def ReRow (W : World) (b o : Nat) (rs : List Re) : Prop := ∀ j (h : j < rs.length), W.cell? ⟨b, o + j, none⟩ = some (.slice rs[j].A rs[j].es.length rs[j].c) ∧ rs[j].ok W
theorem info2 : (Try.prog.info? 119).map (fun i => (i.zero, i.size, i.bytes)) = some (some (.agg #[.slice none 0 0, .int .i64 0]), 2, 32) := by kernel_rfl
theorem fronts_app : ∀ (l : List Kv) (r : Kv) (i : Nat), frontsF (l ++ [r]) i = frontsF l i ++ if r = [] then [] else [(r, i + l.length)]
  | [], r, i => by simp [frontsF]
  | x :: l, r, i => by
    rw [List.cons_append, frontsF, frontsF, fronts_app l r (i + 1)]
    have : i + 1 + l.length = i + (x :: l).length := by simp; omega
    rw [this]
    split <;> simp
theorem HpI.box_ne {hb : Nat} {w0 W : World} {fs : List Fe} {v : Value} (h : HpI hb w0 fs v W) : v.ownBlock ≠ some hb := fun e => by
  obtain ⟨cs, hc⟩ := own_typed h.own hb e
  rw [h.box] at hc
  injection hc with hc
  injection hc with _ hc
  exact absurd hc (by decide)
theorem HpI.app {hb : Nat} {w0 W W7 : World} {fs : List Fe} {v v7 : Value} {f : Fe} (h : HpI hb w0 fs v W) (hg : W.grownBy W7 v.ownBlock) (hown : W7.ownsRow w0.heap.size 119 2 v7 (fs.length + 1) (fs.flatMap Fe.cells ++ f.cells)) (hf : f.ok w0) :
    W7.heap[hb]? = some (.cells #[v] 116 (0, 0)) ∧ HpI hb w0 (fs ++ [f]) v7 (W7.setCell ⟨hb, 0, none⟩ v7) := by
  have hbx : W7.heap[hb]? = some (.cells #[v] 116 (0, 0)) := (hg.block hb (blk_lt h.box) (fun e => h.box_ne e.symm)).trans h.box
  have hne : v7.ownBlock ≠ some hb := fun e => by
    obtain ⟨cs, hc⟩ := own_typed hown hb e
    rw [hbx] at hc
    injection hc with hc
    injection hc with _ hc
    exact absurd hc (by decide)
  refine ⟨hbx, ⟨blk_put hbx 0 v7 rfl, ?_, fun x hx => ?_, ?_, h.nh⟩⟩
  · have h1 : W7.ownsRow w0.heap.size 119 2 v7 (fs ++ [f]).length ((fs ++ [f]).flatMap Fe.cells) := by simpa using hown
    exact own_move h1 fun k hk => Below.heap_setCell _ _ _ _ fun e => hne (by rw [hk, e])
  · rcases List.mem_append.1 hx with hx | hx
    · exact h.ok x hx
    · obtain rfl := List.mem_singleton.1 hx
      exact hf
  · have h1 : Below w0.heap.size w0 W7 := h.be.trans ⟨hg.os, hg.tape, hg.output, hg.size, fun k hk => hg.block k (Nat.lt_of_lt_of_le hk h.be.size) (fun e => by
      have := (h.own.lt k e.symm).1
      omega)⟩
    exact h1.setCell (p := ⟨hb, 0, none⟩) h.nh v7
def Re.kv (r : Re) : Kv := r.es.map Ent.ka
set_option maxRecDepth 100000 in
set_option maxHeartbeats 8000000 in
theorem mnew_c {w : World} {RR : Option Addr} {rb ro rc : Nat} {rows : List Re} (hR : rows ≠ [] → RR = some ⟨rb, ro, none⟩) (h : ReRow w rb ro rows) (hn : rows.length ≤ 100) :
    Calls Try.prog 29 #[.slice RR rows.length rc] w fun e w' => ∃ fs v, e = .returned (.tuple #[.pointer (some ⟨w.heap.size, 0, none⟩), .int .i64 0]) ∧ HpI w.heap.size w fs v w' ∧ fs.map Fe.fr = newF (rows.map Re.kv) ∧ fs.length ≤ rows.length := by
  have HH := Aside0.mk (And.intro hR h)
  have hB0 := (Below.refl _ w).alloc (Nat.le_refl _) (.cells #[.slice none 0 0] 116)
  have hN0 := al_new (W := w) (o := .cells #[.slice none 0 0] 116) (k := w.heap.size) rfl
  have HI0 := Aside0.mk (show HpI w.heap.size w [] (.slice none 0 0) (w.alloc (.cells #[.slice none 0 0] 116)) from ⟨hN0, World.ownsRow_nil _ _ _ _, fun f hf => by simp at hf, hB0, Nat.le_refl _⟩)
  clear hR h hB0 hN0
  go_enter Try.func29, Try.ntmps29
  go_wp2_with fail
  go_loopw [13] (fun iv wr => ∃ (j : Nat) (fs : List Fe) (v : Value), iv = .int .i64 j ∧ j ≤ rows.length ∧ fs.length ≤ j ∧ Aside0 (HpI w.heap.size w fs v wr) ∧ Aside0 (fs.map Fe.fr = frontsF ((rows.take j).map Re.kv) 0)) (fun iv _ => rows.length - (intOf iv).toNat)
  case atStart => exact ⟨0, [], _, rfl, by omega, by simp, HI0, ⟨rfl⟩⟩
  case round =>
    obtain ⟨j, fs, v, rfl, hj, hfl, HI, HF⟩ := hrel
    clear HI0
    obtain ⟨Av, gv, cpv, rfl, _⟩ := HI.out.row
    by_cases hlt : j < rows.length
    · have t1 : decide (j < rows.length) = true := decide_eq_true hlt
      obtain rfl := HH.out.1 (by intro e; rw [e] at hlt; simp at hlt)
      obtain ⟨hc, hok⟩ := HH.out.2 j hlt
      have x0 := cell_below HI.out.be hc
      have htk : rows.take (j + 1) = rows.take j ++ [rows[j]] := by rw [List.take_add_one, List.getElem?_eq_getElem hlt]; rfl
      have hfa := fronts_app ((rows.take j).map Re.kv) rows[j].kv 0
      have hlj : ((rows.take j).map Re.kv).length = j := by simp; omega
      rw [hlj, Nat.zero_add] at hfa
      have HTK := Aside0.mk (And.intro htk hfa)
      have HOK := Aside0.mk hok
      have HMR := Aside0.mk (mright_c (c := rows[j].c) hok.at_ (hok.row.below HI.out.be) hok.rt)
      clear hc hok htk hfa hlj
      generalize rows[j] = r at *
      obtain ⟨A, b, o, c, es⟩ := r
      simp only at x0 HMR
      by_cases he : es = []
      · subst he
        go_wp2_with (first | (go_at_call 54; refine HMR.out.mono ?_; rintro e w3 ⟨rfl, hb3⟩) | fail)
        have hfr := HTK.out.2
        refine ⟨⟨j + 1, fs, _, by go_num, by omega, by omega, ⟨HI.out.below hb3⟩, ⟨?_⟩⟩, by simp [intOf]; omega⟩
        rw [HTK.out.1, List.map_append, List.map_cons, List.map_nil, hfr, HF.out]
        simp [Re.kv]
      · have h0 : (0 : Int) < (es.length : Int) := by have := List.length_pos_iff.2 he; omega
        have HNE := Aside0.mk he
        obtain rfl : A = some ⟨b, o, none⟩ := HOK.out.at_ he
        clear he
        obtain ⟨i0, hi, hzz⟩ := Option.map_eq_some_iff.1 info2
        simp only [Prod.mk.injEq] at hzz
        obtain ⟨hz0, hz1, hz2⟩ := hzz
        go_upto_region 9 with (first | (go_at_call 54; refine HMR.out.mono ?_; rintro e w3 ⟨rfl, hb3⟩) | fail)
        have hI3 := HI.out.below hb3
        have k0 : w3.cell? ⟨w.heap.size, 0, none⟩ = some (.slice Av fs.length cpv) := (blk_cell hI3.box 0).trans rfl
        have HI3 := Aside0.mk hI3
        clear hI3 hb3 x0
        have hnews : ∀ t u, ([.slice (some ⟨b, o, none⟩) es.length c, .int .i64 j] : List Value)[t]? = some u → (w3.alloc (.cells #[.slice (some ⟨b, o, none⟩) es.length c, .int .i64 j] 119)).cell? ((⟨w3.heap.size, 0, none⟩ : Addr).add t) = some u := fun t u hu => by
          rw [Addr.add_lit, Nat.zero_add, blk_cell (al_new (W := w3) (o := .cells #[.slice (some ⟨b, o, none⟩) es.length c, .int .i64 j] 119) rfl)]
          simpa using hu
        have hone : ∀ u ∈ ([.slice (some ⟨b, o, none⟩) es.length c, .int .i64 j] : List Value), u.oneCell' = true := fun u hu => by
          simp only [List.mem_cons, List.not_mem_nil, or_false] at hu
          rcases hu with rfl | rfl <;> rfl
        have hI4 := HI3.out.below ((Below.refl _ w3).alloc (Nat.le_refl _) (.cells #[.slice (some ⟨b, o, none⟩) es.length c, .int .i64 j] 119))
        have HAP := Aside0.mk (And.intro hnews (And.intro hone (And.intro hI4 hI4.be.size)))
        clear hnews hone hI4
        go_wp2_with (first
          | (at_builtin
             refine wpList_append_own_at _ rfl _ _ 114 rfl w.heap.size 119 i0 _ 2 32 Try.underlying114 hi hz0 hz1 hz2 rfl (by decide) _ _ _ rfl HAP.out.2.2.1.own ⟨w3.heap.size, 0, none⟩ 1 1 [.slice (some ⟨b, o, none⟩) es.length c, .int .i64 j] rfl rfl HAP.out.1 HAP.out.2.1 (by simp only [maxLen]; omega) (by omega) HAP.out.2.2.2 ?_
             intro v7 w7 hown7 hg7 hnil7 hat7
             obtain ⟨hbx7, hI7⟩ := HpI.app (f := ⟨b, o, c, es, j⟩) HAP.out.2.2.1 hg7 hown7 ⟨HOK.out.row, HOK.out.rt, HNE.out, HOK.out.le, HOK.out.cap⟩
             obtain ⟨A7, g7, cp7, rfl, _, hA7, _⟩ := hI7.row
             obtain rfl := (hA7 (by simp)).1
             have k7 : w7.cell? ⟨w.heap.size, 0, none⟩ = some (.slice Av fs.length cpv) := (blk_cell hbx7 0).trans rfl
             have q7 : w7.frozen? ⟨w.heap.size, 0, none⟩ = false := blk_frozen hbx7 0
             have HI7 := Aside0.mk hI7
             clear hI7 hown7 hg7 hnil7 hat7 hbx7)
          | fail)
        have hfr := HTK.out.2
        refine ⟨⟨j + 1, fs ++ [⟨b, o, c, es, j⟩], _, by go_num, by omega, by simp; omega, ⟨by simpa using HI7.out⟩, ⟨?_⟩⟩, by simp [intOf]; omega⟩
        rw [HTK.out.1, List.map_append, List.map_append, List.map_cons, List.map_nil, List.map_cons, List.map_nil, hfr, HF.out, if_neg (by simpa [Re.kv] using HNE.out)]
        rfl
    · obtain rfl : j = rows.length := by omega
      have t1 : decide (rows.length < rows.length) = false := decide_eq_false hlt
      have k0 : wr.cell? ⟨w.heap.size, 0, none⟩ = some (.slice Av fs.length cpv) := (blk_cell HI.out.box 0).trans rfl
      have hdv : Int.tdiv (fs.length : Int) 2 = ((fs.length / 2 : Nat) : Int) := by rw [Int.tdiv_eq_ediv_of_nonneg (by omega)]; omega
      go_wp2_with fail
      go_loopw [8] (fun kv ww => ∃ (k : Int) (gs : List Fe), kv = .int .i64 k ∧ -1 ≤ k ∧ k ≤ (gs.length : Int) ∧ Aside0 (gs.length = fs.length) ∧ Aside0 (HpI w.heap.size w gs (.slice Av fs.length cpv) ww) ∧ Aside0 ((if 0 ≤ k then heapF k.toNat (gs.map Fe.fr) else gs.map Fe.fr) = newF (rows.map Re.kv))) (fun kv _ => (intOf kv + 1).toNat)
      case atStart =>
        refine ⟨((fs.length / 2 : Nat) : Int), fs, by first | rfl | go_num, by omega, by omega, ⟨rfl⟩, HI, ⟨?_⟩⟩
        rw [if_pos (by omega), Int.toNat_natCast, HF.out, List.take_length]
        unfold newF
        have hl := congrArg List.length HF.out
        rw [List.take_length, List.length_map] at hl
        rw [hl]
      case round =>
        obtain ⟨k, gs, rfl, hk1, hk2, HL, HG, HQ⟩ := hrel
        by_cases hk : 0 ≤ k
        · have t2 : decide (0 ≤ k) = true := decide_eq_true hk
          obtain ⟨n, rfl⟩ : ∃ n : Nat, k = (n : Int) := ⟨k.toNat, by omega⟩
          have hll := HL.out
          have HSK := Aside0.mk (msink_c (a := n) HG.out (by omega) (by omega))
          have HN := Aside0.mk (And.intro hk1 (And.intro hk2 hfl))
          have hw1 : IntKind.i64.wrap ((n : Int) - 1) = (n : Int) - 1 := by rw [IntKind.wrap_i64]; omega
          clear hll hk1
          go_wp2_with (first | (go_at_call 55; refine HSK.out.mono ?_; rintro e w5 ⟨gs', rfl, hI5, hs5, hl5, -⟩) | fail)
          have hll := HL.out
          refine ⟨⟨(n : Int) - 1, gs', by go_num, by omega, by rw [hl5]; have := HN.out.2.1; omega, ⟨by rw [hl5, hll]⟩, ⟨hI5⟩, ⟨?_⟩⟩, by simp [intOf]⟩
          have hq := HQ.out
          rw [if_pos (by omega), Int.toNat_natCast] at hq
          cases n with
          | zero => rw [if_neg (by omega), hs5, ← hq]; rfl
          | succ n => rw [if_pos (by omega), hs5, ← hq, show (((n + 1 : Nat) : Int) - 1).toNat = n by omega]; rfl
        · have t2 : decide (0 ≤ k) = false := decide_eq_false hk
          go_wp2_with fail
          go_ret2
          exact ⟨rfl, gs, ⟨_, HG.out⟩, by have := HQ.out; rwa [if_neg (by omega)] at this, by have := HL.out; omega⟩
end Go.Proofs.Ytoikaegohkolkaa.Top
