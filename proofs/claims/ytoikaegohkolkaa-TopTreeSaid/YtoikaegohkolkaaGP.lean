/-
  A task done in a tree; conditions: those that each theorem states.
-/
import Derived.Test.YtoikaegohkolkaaGO
namespace Go.Proofs.Ytoikaegohkolkaa.Top
set_option linter.unusedSimpArgs false
set_option linter.unusedVariables false
open Go.RowKit Go.Proofs.YtoikaegohkolkaaW.PrintWords Go.Proofs.YtoikaegohkolkaaW.PrintLast Go.Proofs.YtoikaegohkolkaaW.PrintMore Go.Proofs.Ytoikaegohkolkaa.Plain Go.Proofs.Ytoikaegohkolkaa.KFns Go.Proofs.Ytoikaegohkolkaa.Fns
theorem TrI.put {w0 : World} {R : Option Addr} {c : Nat} {gs : Gr} {keep m : Int} {tb : Nat} {vr vs v9 : Value} {rows : List Re} {W W9 : World} {r : Re} (h : TrI w0 R c gs keep m tb vr vs rows W) (hg : W.grownBy W9 vs.ownBlock) (hown : W9.ownsRow w0.heap.size 31 1 v9 (rows.length + 1) (rows.map Re.v ++ [r.v])) (hrk : RowK w0 W r) :
    W9.heap[tb]? = some (.cells #[.slice R gs.length c, .int .i64 keep, .int .i64 m, vr, vs] 29 (0, 0)) ∧ TrI w0 R c gs keep m tb vr v9 (rows ++ [r]) (W9.setCell ⟨tb, 4, none⟩ v9) ∧ Kt W (W9.setCell ⟨tb, 4, none⟩ v9) := by
  have hbx := box_grown h.bx h.own hg
  have hk1 : Kt W W9 := Kt.grown (.inl rfl) h.own hg
  have hk := hk1.box (i := 4) (u := v9) hbx
  refine ⟨hbx, ⟨?_, blk_put hbx 4 v9 rfl, ?_, h.tw, fun x hx => ?_⟩, hk⟩
  · exact (h.be.grown hg h.be.size (fun k hk => (h.own.lt k hk).1)).setCell (p := ⟨tb, 4, none⟩) h.tw v9
  · have h1 : W9.ownsRow w0.heap.size 31 1 v9 (rows ++ [r]).length ((rows ++ [r]).map Re.v) := by simpa using hown
    exact own_set hbx h1
  · rcases List.mem_append.1 hx with hx | hx
    · exact (h.rk x hx).kt hk
    · obtain rfl := List.mem_singleton.1 hx
      exact hrk.kt hk
theorem TrI.runs {w0 : World} {R : Option Addr} {c : Nat} {gs : Gr} {keep m : Int} {tb : Nat} {vr vs vr' : Value} {rows : List Re} {W : World} (h : TrI w0 R c gs keep m tb vr vs rows W) :
    TrI w0 R c gs keep m tb vr' vs rows (W.setCell ⟨tb, 3, none⟩ vr') ∧ Kt W (W.setCell ⟨tb, 3, none⟩ vr') := by
  have hk : Kt W (W.setCell ⟨tb, 3, none⟩ vr') := (Kt.of_below (Below.refl _ W)).box (i := 3) (u := vr') h.bx
  exact ⟨⟨h.be.setCell (p := ⟨tb, 3, none⟩) h.tw vr', blk_put h.bx 3 vr' rfl, own_set h.bx h.own, h.tw, fun x hx => (h.rk x hx).kt hk⟩, hk⟩
theorem sumN_sel {gs : Gr} {keep m : Int} {rows : List Re} : ∀ {rs : List Rn}, (∀ x ∈ rs, RunG gs keep m rows x) → sumN rs = (((selR rows rs).map fun r => r.es.length).sum : Nat)
  | [], _ => rfl
  | x :: r, h => by
    have h1 := sumN_sel (rs := r) fun y hy => h y (by simp [hy])
    have h2 := (h x (by simp)).n
    show x.n + sumN r = _
    rw [h1, h2]
    simp [selR]
theorem allK_len (rows : List Re) (rs : List Rn) : (allK rows rs).length ≤ ((selR rows rs).map fun r => r.es.length).sum := by
  unfold allK
  refine Nat.le_trans (allF_len _) (Nat.le_of_eq ?_)
  rw [List.map_map]
  congr 1
  apply List.map_congr_left
  intro r _
  simp [Re.kv]
theorem RnRow.far {W W1 : World} {b : Nat} {rs : List Rn} (h : RnRow W b rs) (hb : W1.heap[b]? = W.heap[b]?) : RnRow W1 b rs := fun j hj m u hu => by
  have := h j hj m u hu
  rw [← this]
  unfold World.cell?
  rw [hb]
/-- The tree behind a task: its rows and its runs are put down. -/
theorem do_end {w0 : World} {R : Option Addr} {c : Nat} {gs : Gr} {keep m : Int} {tb g cv b' c' : Nat} {R' : Option Addr} {vr v9 : Value} {rows : List Re} {W W9 : World} {r : Re} {nr : List Rn} (h : TrI w0 R c gs keep m tb vr (.slice (some ⟨g, 0, none⟩) rows.length cv) rows W) (hg : W.grownBy W9 (some g)) (hown : W9.ownsRow w0.heap.size 31 1 v9 (rows.length + 1) (rows.map Re.v ++ [r.v])) (hrk : RowK w0 W r)
    (h0 : 0 < rows.length) (hR' : nr ≠ [] → R' = some ⟨b', 0, none⟩) (hnr : RnRow W b' nr) :
    TrI w0 R c gs keep m tb (.slice R' nr.length c') v9 (rows ++ [r]) ((W9.setCell ⟨tb, 4, none⟩ v9).setCell ⟨tb, 3, none⟩ (.slice R' nr.length c')) ∧ Kt W ((W9.setCell ⟨tb, 4, none⟩ v9).setCell ⟨tb, 3, none⟩ (.slice R' nr.length c')) ∧ RunAt ((W9.setCell ⟨tb, 4, none⟩ v9).setCell ⟨tb, 3, none⟩ (.slice R' nr.length c')) (.slice R' nr.length c') nr := by
  obtain ⟨hbx, h1, hk1⟩ := h.put hg hown hrk
  obtain ⟨h2, hk2⟩ := h1.runs (vr' := .slice R' nr.length c')
  refine ⟨h2, hk1.trans hk2, R', b', c', rfl, hR', ?_⟩
  cases nr with
  | nil => exact fun j hj => by simp at hj
  | cons x t =>
    have hx := hnr 0 (by simp) 0 (.int .i64 x.f) rfl
    rw [Nat.zero_mul, Nat.zero_add] at hx
    have hlt := World.block_lt_of_cell? _ _ hx
    have hbt : b' ≠ tb := fun e => by
      rw [e, blk_cell h.bx 0] at hx
      cases hx
    have hbg : b' ≠ g := fun e => by
      obtain ⟨g', cv', he, hc, _⟩ := own_re h.own (j := 0) h0
      cases he
      rw [e, hc] at hx
      cases hx
    refine hnr.far ?_
    rw [Below.heap_setCell _ ⟨tb, 3, none⟩ _ _ hbt, Below.heap_setCell _ ⟨tb, 4, none⟩ _ _ hbt]
    exact hg.block b' hlt (fun e => hbg (Option.some.inj e))
/-- What a task that is done gives. -/
def DoR (w0 w : World) (R : Option Addr) (c : Nat) (gs : Gr) (keep m : Int) (tb : Nat) (rows : List Re) (lev : Int) (T : Kv) (e : Ending) (w' : World) : Prop :=
  ∃ (r : Re) (vr' vs' : Value), e = .returned (.bool true) ∧ TrI w0 R c gs keep m tb vr' vs' (rows ++ [r]) w' ∧ RunAt w' vr' (newRuns rows.length lev r.es.length) ∧ r.kv = foldK (atF gs keep m) T ∧ Kt w w'
set_option maxRecDepth 100000 in
set_option maxHeartbeats 8000000 in
theorem do_c {w0 w : World} {R : Option Addr} {rb ro c tb b2 c2 : Nat} {gs : Gr} {keep m lev : Int} {vr vs : Value} {rows : List Re} {rs : List Rn} (hR : gs ≠ [] → R = some ⟨rb, ro, none⟩) (hG : GRow w0 rb ro gs) (hl : (gs.length : Int) ≤ 9223372036854775807) (h : TrI w0 R c gs keep m tb vr vs rows w) (hr : RunAt w vr rs) (hg : ∀ x ∈ rs, RunG gs keep m rows x) (hok : RnOk rs) (h0 : 0 < rs.length) (hn : rs.length ≤ 8) (hs : ((selR rows rs).map (fun r => r.es.length)).sum ≤ 1000) (hz : ZRow w b2 (rs.map Rn.f)) (hlv : 0 ≤ lev ∧ lev < 4) (hck : chkK gs keep m (allK rows rs) = 0) (hrn : rows.length ≤ 100) :
    Calls Try.prog 9 #[.pointer (some ⟨tb, 0, none⟩), .agg #[.slice (some ⟨b2, 0, none⟩) rs.length c2, .int .i64 lev]] w (DoR w0 w R c gs keep m tb rows lev (allK rows rs)) := by
  obtain ⟨A, b, cr, rfl, hA, hrow⟩ := hr
  obtain rfl := hA (by intro e; rw [e] at h0; simp at h0)
  have hrp : 1 ≤ rows.length := by
    have := (hg _ (List.getElem_mem h0)).fl
    have := (hg _ (List.getElem_mem h0)).f1
    omega
  have hB1 := (Below.refl _ w).alloc (Nat.le_refl _) (.cells #[.slice (some ⟨b2, 0, none⟩) rs.length c2, .int .i64 lev] 38)
  have hN1 := al_new (W := w) (o := .cells #[.slice (some ⟨b2, 0, none⟩) rs.length c2, .int .i64 lev] 38) (k := w.heap.size) rfl
  obtain ⟨g, cv, rfl, hcx, hgw⟩ := own_re h.own (j := 0) (by omega)
  clear hcx
  have HH := Aside0.mk (And.intro hR (And.intro hG (And.intro hl (And.intro h (And.intro hrow (And.intro hg (And.intro hok (And.intro hz hs))))))))
  have HP := Aside0.mk (And.intro h0 (And.intro hn (And.intro hck (And.intro hrn (And.intro hrp hgw)))))
  clear hA hR hG hl h hrow hg hs hok hz h0 hck hrp hgw hrn
  go_enter Try.func9, Try.ntmps9
  go_wp2_with fail
  generalize hw1 : w.alloc (.cells #[.slice (some ⟨b2, 0, none⟩) rs.length c2, .int .i64 lev] 38) = w1 at *
  clear hw1
  have HB1 := Aside0.mk (And.intro hB1 hN1)
  clear hB1 hN1
  go_loopw [5, 6] (fun o i wr => ∃ (j : Nat), j ≤ rs.length ∧ i = .int .i64 j ∧ Aside0 (wr.ownsRow w1.heap.size 31 1 o j (((selR rows rs).take j).map Re.v)) ∧ Aside0 (Below w1.heap.size w1 wr)) (fun _ i _ => rs.length - (intOf i).toNat)
  case atStart => exact ⟨0, by omega, rfl, ⟨World.ownsRow_nil _ _ _ _⟩, ⟨Below.refl _ _⟩⟩
  case round =>
    obtain ⟨j, hj, rfl, HO, HB⟩ := hrel
    have hBw : Below w.heap.size w wr := HB1.out.1.trans (HB.out.mono HB1.out.1.size)
    have hT := HH.out.2.2.2.1.below hBw
    have hN := (HB.out.block _ (blk_lt HB1.out.2)).trans HB1.out.2
    have q0 : wr.cell? ⟨w.heap.size, 0, none⟩ = some (.slice (some ⟨b2, 0, none⟩) rs.length c2) := (blk_cell hN 0).trans rfl
    have q1 : wr.cell? ⟨w.heap.size, 1, none⟩ = some (.int .i64 lev) := (blk_cell hN 1).trans rfl
    have k3 : wr.cell? ⟨tb, 3, none⟩ = some (.slice (some ⟨b, 0, none⟩) rs.length cr) := (blk_cell hT.bx 3).trans rfl
    have k4 : wr.cell? ⟨tb, 4, none⟩ = some (.slice (some ⟨g, 0, none⟩) rows.length cv) := (blk_cell hT.bx 4).trans rfl
    have HT := Aside0.mk (And.intro hT (And.intro hN hBw))
    by_cases hlt : j < rs.length
    · have t1 : decide (j < rs.length) = true := decide_eq_true hlt
      have hgx := HH.out.2.2.2.2.2.1 _ (List.getElem_mem hlt)
      obtain ⟨hfl, hra⟩ := rowAt_get hgx.f1 hgx.fl
      obtain ⟨g', cv', he, hc, _⟩ := own_re hT.own hfl
      cases he
      have hzj := (HH.out.2.2.2.2.2.2.2.1.below hBw) j (by rw [List.length_map]; exact hlt)
      rw [List.getElem_map] at hzj
      have htk : ((selR rows rs).take (j + 1)).map Re.v = ((selR rows rs).take j).map Re.v ++ [(rowAt rows rs[j]).v] := by
        unfold selR
        rw [List.take_add_one, List.getElem?_map, List.getElem?_eq_getElem hlt, List.map_append]
        rfl
      have HTK := Aside0.mk htk
      have hz1 := hgx.f1
      have hz2 := hgx.fl
      rw [← hra] at hc
      unfold Re.v at hc
      generalize rowAt rows rs[j] = re at *
      generalize rs[j].f = z at *
      have z1 : decide (z < 1) = false := decide_eq_false (by omega)
      have z2 : decide ((rows.length : Int) ≤ z) = false := decide_eq_false (by omega)
      have z3 : (0 : Int) ≤ z := by omega
      have g0 : (0 : Int) ≤ (j : Int) := by omega
      have g1 : (j : Int) < (rs.length : Int) := by omega
      clear hT hN hBw hgx hra htk hfl hz1
      have HWR := Aside0.mk (show wrap64 ((j : Int) + 1) = (j : Int) + 1 by unfold wrap64; omega)
      have HN8 := Aside0.mk hn
      clear hn
      obtain ⟨rA, rb', ro', rc, res⟩ := re
      simp only at hc
      generalize hrl : res.length = rl at *
      have dq0 : wr.drew.cell? ⟨w.heap.size, 0, none⟩ = some (.slice (some ⟨b2, 0, none⟩) rs.length c2) := q0
      have dk4 : wr.drew.cell? ⟨tb, 4, none⟩ = some (.slice (some ⟨g, 0, none⟩) rows.length cv) := k4
      have dzj : wr.drew.cell? ⟨b2, j, none⟩ = some (.int .i64 z) := hzj
      go_wp2_with fail
      go_region_held3 (fun w' => w'.cell? ⟨w.heap.size, 0, none⟩ = some (.slice (some ⟨b2, 0, none⟩) rs.length c2) ∧ w'.cell? ⟨tb, 4, none⟩ = some (.slice (some ⟨g, 0, none⟩) rows.length cv) ∧ w'.cell? ⟨b2, j, none⟩ = some (.int .i64 z)) (first | exact ⟨by assumption, by assumption, by assumption⟩ | (trace_state; fail)) (fail)
      all_goals
        go_upto_region 7 with fail
        go_region_law (refine step_row (w0 := w1) (W := wr.drew.drew) (base := w1.heap.size) ?hw (.tmp 39) (.tmp 51) ?ho u5 j (((selR rows rs).take j).map Re.v) (.slice rA rl rc) rfl rfl ?hs ?hx ?hO ?hB ?hz ?hl ?_; (case hw => simp [Region.wanted]); (case ho => rfl); (case hs => simp [Act.eval, Act.put]); (case hx => simp [Act.eval, Act.put]); (case hO => exact own_below HO.out (by (repeat' (first | with_reducible exact Below.refl _ _ | with_reducible assumption | with_reducible apply bdrew | with_reducible apply bdrewN | with_reducible apply balloc | with_reducible refine bset ?_ (Nat.le_refl _))))); (case hB => exact bdrew (bdrew HB.out)); (case hz => exact HB.out.size); (case hl => have := HN8.out; omega); intro v1 w3 hown hB3 hg3; have HW3 := Aside0.mk (And.intro hown (And.intro hB3 hg3)); clear hown hB3 hg3)
        all_goals
          simp only [List.getElem_toArray, List.getElem_cons_succ, List.getElem_cons_zero, Act.put, List.setIfInBounds_toArray, List.set_cons_zero, List.set_cons_succ]
          go_wp2_with fail
          refine ⟨⟨j + 1, by omega, by rw [HWR.out]; rfl, ⟨?_⟩, ⟨?_⟩⟩, by rw [HWR.out]; simp only [intOf]; omega⟩
          · rw [HTK.out]
            subst hrl
            exact HW3.out.1
          · exact HW3.out.2.1
    · obtain rfl : j = rs.length := by omega
      have t1 : decide (rs.length < rs.length) = false := decide_eq_false hlt
      have hsl : (selR rows rs).length = rs.length := by simp [selR]
      have hO := HO.out
      rw [List.take_of_length_le (Nat.le_of_eq hsl), ← hsl] at hO
      have hok : ∀ r ∈ selR rows rs, r.ok wr := fun r hr => by
        obtain ⟨x, hx, rfl⟩ := List.mem_map.1 hr
        have hgx := HH.out.2.2.2.2.2.1 x hx
        obtain ⟨h1, h2⟩ := rowAt_get hgx.f1 hgx.fl
        exact RowK.re_ok (by rw [h2]; exact hT.rk _ (List.getElem_mem h1)) hT.be hgx.g
      obtain ⟨A2, b3, c3, rfl, hA2, hrr⟩ := own_rerow hO hok
      have HAL := Aside0.mk (mall_c (rc := c3) hA2 hrr (by rw [hsl]; have := HP.out.2.1; omega) (by have := HH.out.2.2.2.2.2.2.2.2; omega))
      clear hO hok hA2 hrr hT hN hBw
      have HSL := Aside0.mk hsl
      clear hsl
      generalize hsn : (selR rows rs).length = sn at *
      clear hsn
      go_upto_region 9 with (first
        | (go_at_call 14
           refine HAL.out.mono ?_
           rintro e w5 ⟨v5, outs, rfl, ho5, hk5, hr5, hq5, hn5, hb5⟩
           obtain ⟨A5, g5, c5, rfl, hc5, hcc5, hA5, hrow5⟩ := own_row ho5 hr5
           have H5 := Aside0.mk (And.intro hA5 (And.intro hrow5 (And.intro hk5 (And.intro hq5 (And.intro hn5 hb5)))))
           clear ho5 hk5 hr5 hq5 hn5 hb5 hc5 hcc5 hA5 hrow5)
        | fail)
      have hT5 := HT.out.1.below H5.out.2.2.2.2.2
      have hN5 := (H5.out.2.2.2.2.2.block _ (blk_lt HT.out.2.1)).trans HT.out.2.1
      have z0 : w5.cell? ⟨tb, 0, none⟩ = some (.slice R gs.length c) := (blk_cell hT5.bx 0).trans rfl
      have z1 : w5.cell? ⟨tb, 1, none⟩ = some (.int .i64 keep) := (blk_cell hT5.bx 1).trans rfl
      have z2 : w5.cell? ⟨tb, 2, none⟩ = some (.int .i64 m) := (blk_cell hT5.bx 2).trans rfl
      have hB5 : Below w.heap.size w w5 := HT.out.2.2.trans (H5.out.2.2.2.2.2.mono HT.out.2.2.size)
      have hcl : ∀ W, Below w5.heap.size w5 W → Calls Try.prog 12 #[rulV R gs.length c keep, .int .i64 m, .slice A5 outs.length c5] W fun e w' => ∃ (A6 : Option Addr) (g6 c6 : Nat) (outs2 : List Ent), e = .returned (.tuple #[.slice A6 outs2.length c6, .int .i64 0]) ∧ Below w5.heap.size w5 w' ∧ RowK w0 w' ⟨A6, g6, 0, c6, outs2⟩ ∧ outs2.map Ent.ka = foldK (atF gs keep m) (allK rows rs) := fun W hW => by
        have hbw := hB5.trans (hW.mono hB5.size)
        have hbe := hT5.be.trans (hW.mono hT5.be.size)
        refine (ffold_c (c := c) (c2 := c5) HH.out.1 (HH.out.2.1.below hbe) HH.out.2.2.1 (fun h => (H5.out.1 h).1) (H5.out.2.1.below hW) H5.out.2.2.2.2.1 (fun x hx => ⟨(H5.out.2.2.2.1 x hx).2.1, (H5.out.2.2.2.1 x hx).2.2.2⟩) (fun x hx => ⟨(H5.out.2.2.2.1 x hx).1.ok, (H5.out.2.2.2.1 x hx).1.mn, (H5.out.2.2.2.1 x hx).1.mx⟩)).mono ?_
        rintro e w' ⟨v, outs2, h1, h2, h3, h4⟩
        have hke : chk gs keep m outs = 0 := by rw [chk_ka, H5.out.2.2.1]; exact HP.out.2.2.1
        rw [hke] at h1
        have hf := h4 hke
        have ho := own_down hf.own hbe.size
        have hrd := fun x hx => own_down (hf.rd x hx) hbe.size
        obtain ⟨A6, g6, c6, rfl, hc6, hcc6, hA6, hrow6⟩ := own_row ho hrd
        refine ⟨A6, g6, c6, outs2, h1, hW.trans (h2.mono hW.size), ⟨fun h => (hA6 h).1, hc6, hcc6, .inr ⟨ho, hrd, rfl⟩⟩, ?_⟩
        rw [hf.kv, H5.out.2.2.1]
        rfl
      unfold rulV at hcl
      have HCL := Aside0.mk hcl
      have HT5 := Aside0.mk (And.intro hT5 (And.intro hN5 hB5))
      have HZ := Aside0.mk (And.intro z0 (And.intro z1 z2))
      clear hcl hT5 hN5 hB5
      have d0 : w5.drew.cell? ⟨tb, 0, none⟩ = some (.slice R gs.length c) := z0
      have d1 : w5.drew.cell? ⟨tb, 1, none⟩ = some (.int .i64 keep) := z1
      have d2 : w5.drew.cell? ⟨tb, 2, none⟩ = some (.int .i64 m) := z2
      go_region_held3 (fun w' => w'.cell? ⟨tb, 0, none⟩ = some (.slice R gs.length c) ∧ w'.cell? ⟨tb, 1, none⟩ = some (.int .i64 keep) ∧ w'.cell? ⟨tb, 2, none⟩ = some (.int .i64 m)) (first | exact ⟨by assumption, by assumption, by assumption⟩ | (trace_state; fail)) (first | (go_at_call 12; refine (HCL.out _ (by (repeat' (first | with_reducible exact Below.refl _ _ | with_reducible assumption | with_reducible apply bdrew | with_reducible apply bdrewN | with_reducible apply balloc | with_reducible refine bset ?_ (Nat.le_refl _))))).mono ?_; rintro e w6 ⟨A6, g6, c6, outs6, rfl, hb6, hrk6, hkv6⟩; have H6 := Aside0.mk (And.intro hb6 (And.intro hrk6 hkv6)); clear hb6 hrk6 hkv6; have y0 : w6.cell? ⟨tb, 0, none⟩ = some (.slice R gs.length c) := cell_below H6.out.1 HZ.out.1; have y1 : w6.cell? ⟨tb, 1, none⟩ = some (.int .i64 keep) := cell_below H6.out.1 HZ.out.2.1; have y2 : w6.cell? ⟨tb, 2, none⟩ = some (.int .i64 m) := cell_below H6.out.1 HZ.out.2.2))
      all_goals
        go_upto_region 10 with fail
        have hT6 := HT5.out.1.below H6.out.1
        have hN6 := (H6.out.1.block _ (blk_lt HT5.out.2.1)).trans HT5.out.2.1
        have hB6 : Below w.heap.size w w6 := HT5.out.2.2.trans (H6.out.1.mono HT5.out.2.2.size)
        have hol : outs6.length ≤ ((selR rows rs).map fun r => r.es.length).sum := by
          have h1 := congrArg List.length H6.out.2.2
          rw [List.length_map] at h1
          rw [h1]
          exact Nat.le_trans (foldK_len _ _) (allK_len rows rs)
        have hsu := sumN_sel HH.out.2.2.2.2.2.1
        have hs1 := HH.out.2.2.2.2.2.2.2.2
        have hrn := HP.out.2.2.2.1
        have hrp := HP.out.2.2.2.2.1
        have haf : ∀ W, Below w6.heap.size w6 W → Calls Try.prog 18 #[.slice (some ⟨b, 0, none⟩) rs.length cr, .agg #[.slice (some ⟨b2, 0, none⟩) rs.length c2, .int .i64 lev], .int .i64 (rows.length : Int), .int .i64 (outs6.length : Int)] W fun e w' => ∃ (R' : Option Addr) (b' c' : Nat), e = .returned (.tuple #[.slice R' (newRuns rows.length lev outs6.length).length c', .int .i64 0]) ∧ (newRuns rows.length lev outs6.length ≠ [] → R' = some ⟨b', 0, none⟩) ∧ RnRow w' b' (newRuns rows.length lev outs6.length) ∧ Below w6.heap.size w6 w' := fun W hW => by
          have hbw := hB6.trans (hW.mono hB6.size)
          refine (after_c (c := cr) (c2 := c2) (HH.out.2.2.2.2.1.below hbw) HH.out.2.2.2.2.2.2.1 HP.out.1 HP.out.2.1 (HH.out.2.2.2.2.2.2.2.1.below hbw) (by omega) hlv (by omega) (by rw [hsu]; omega)).mono ?_
          rintro e w' ⟨R', b', c', h1, h2, h3, h4⟩
          exact ⟨R', b', c', h1, h2, h3, hW.trans (h4.mono hW.size)⟩
        have HAF := Aside0.mk haf
        have p3 : w6.cell? ⟨tb, 3, none⟩ = some (.slice (some ⟨b, 0, none⟩) rs.length cr) := (blk_cell hT6.bx 3).trans rfl
        have p4 : w6.cell? ⟨tb, 4, none⟩ = some (.slice (some ⟨g, 0, none⟩) rows.length cv) := (blk_cell hT6.bx 4).trans rfl
        have r0 : w6.cell? ⟨w.heap.size, 0, none⟩ = some (.slice (some ⟨b2, 0, none⟩) rs.length c2) := (blk_cell hN6 0).trans rfl
        have r1 : w6.cell? ⟨w.heap.size, 1, none⟩ = some (.int .i64 lev) := (blk_cell hN6 1).trans rfl
        have HT6 := Aside0.mk (And.intro hT6 hB6)
        have HPP := Aside0.mk (And.intro p3 (And.intro p4 (And.intro r0 r1)))
        clear hT6 hN6 hB6 hol hsu hs1 hrn hrp haf q0 q1 k3 k4 z0 z1 z2 d0 d1 d2 y0 y1 y2
        generalize hnr : newRuns rows.length lev outs6.length = nr at *
        have HNR := Aside0.mk hnr
        clear hnr
        have d3 : w6.drew.cell? ⟨tb, 3, none⟩ = some (.slice (some ⟨b, 0, none⟩) rs.length cr) := p3
        have d4 : w6.drew.cell? ⟨tb, 4, none⟩ = some (.slice (some ⟨g, 0, none⟩) rows.length cv) := p4
        have d0 : w6.drew.cell? ⟨w.heap.size, 0, none⟩ = some (.slice (some ⟨b2, 0, none⟩) rs.length c2) := r0
        have d1 : w6.drew.cell? ⟨w.heap.size, 1, none⟩ = some (.int .i64 lev) := r1
        go_region_held3 (fun w' => w'.cell? ⟨tb, 3, none⟩ = some (.slice (some ⟨b, 0, none⟩) rs.length cr) ∧ w'.cell? ⟨tb, 4, none⟩ = some (.slice (some ⟨g, 0, none⟩) rows.length cv) ∧ w'.cell? ⟨w.heap.size, 0, none⟩ = some (.slice (some ⟨b2, 0, none⟩) rs.length c2) ∧ w'.cell? ⟨w.heap.size, 1, none⟩ = some (.int .i64 lev)) (first | exact ⟨by assumption, by assumption, by assumption, by assumption⟩ | (trace_state; fail)) (first | (go_at_call 18; refine (HAF.out _ (by (repeat' (first | with_reducible exact Below.refl _ _ | with_reducible assumption | with_reducible apply bdrew | with_reducible apply bdrewN | with_reducible apply balloc | with_reducible refine bset ?_ (Nat.le_refl _))))).mono ?_; rintro e w7 ⟨R', b', c', rfl, hR', hnr7, hb7⟩; have H7 := Aside0.mk (And.intro hR' (And.intro hnr7 hb7)); clear hR' hnr7 hb7; have y3 : w7.cell? ⟨tb, 3, none⟩ = some (.slice (some ⟨b, 0, none⟩) rs.length cr) := cell_below H7.out.2.2 HPP.out.1; have y4 : w7.cell? ⟨tb, 4, none⟩ = some (.slice (some ⟨g, 0, none⟩) rows.length cv) := cell_below H7.out.2.2 HPP.out.2.1; have y0 : w7.cell? ⟨w.heap.size, 0, none⟩ = some (.slice (some ⟨b2, 0, none⟩) rs.length c2) := cell_below H7.out.2.2 HPP.out.2.2.1; have y1 : w7.cell? ⟨w.heap.size, 1, none⟩ = some (.int .i64 lev) := cell_below H7.out.2.2 HPP.out.2.2.2))
        all_goals
          go_upto_region 11 with fail
          have hb8 := (Below.refl _ w7).alloc (Nat.le_refl _) (.cells #[.slice A6 outs6.length c6] 31)
          have hT8 := (HT6.out.1.below H7.out.2.2).below hb8
          have hB8 : Below w.heap.size w (w7.alloc (.cells #[.slice A6 outs6.length c6] 31)) := (HT6.out.2.trans (H7.out.2.2.mono HT6.out.2.size)).trans (hb8.mono (HT6.out.2.trans (H7.out.2.2.mono HT6.out.2.size)).size)
          have hrk8 := (H6.out.2.1.below H7.out.2.2).below hb8
          have hnr8 := H7.out.2.1.below hb8
          have HT8 := Aside0.mk (And.intro hT8 (And.intro hB8 (And.intro hrk8 (And.intro hnr8 hT8.be.size))))
          clear hb8 hT8 hB8 hrk8 hnr8 p3 p4 r0 r1 d3 d4 d0 d1 y0 y1
          obtain ⟨i0, hi, hzz⟩ := Option.map_eq_some_iff.1 info_row
          simp only [Prod.mk.injEq] at hzz
          obtain ⟨hz0, hz1, hz2⟩ := hzz
          go_wp2_with (first
            | (at_builtin
               refine wpList_append_own_at _ rfl _ _ 25 rfl w0.heap.size 31 i0 _ 1 24 Try.underlying25 hi hz0 hz1 hz2 rfl (by decide) _ _ _ rfl HT8.out.1.own ⟨w7.heap.size, 0, none⟩ 1 1 [.slice A6 outs6.length c6] rfl rfl (cell_one_new _ _ _) (fun u hu => by obtain rfl := List.mem_singleton.1 hu; rfl) (by have := HP.out.2.2.2.1; simp only [maxLen]; omega) (by have := HP.out.2.2.2.1; omega) HT8.out.2.2.2.2 ?_
               intro v9 w9 hown9 hg9 hnil9 hat9
               obtain ⟨A9, c9, rfl, _⟩ := row_slice hown9
               have HE := Aside0.mk (do_end (c' := c') (r := ⟨A6, g6, 0, c6, outs6⟩) HT8.out.1 hg9 hown9 HT8.out.2.2.1 HP.out.2.2.2.2.1 H7.out.1 HT8.out.2.2.2.1)
               have hbx9 := box_grown HT8.out.1.bx HT8.out.1.own hg9
               have k93 : w9.cell? ⟨tb, 3, none⟩ = some (.slice (some ⟨b, 0, none⟩) rs.length cr) := (blk_cell hbx9 3).trans rfl
               have k94 : w9.cell? ⟨tb, 4, none⟩ = some (.slice (some ⟨g, 0, none⟩) rows.length cv) := (blk_cell hbx9 4).trans rfl
               have f93 : w9.frozen? ⟨tb, 3, none⟩ = false := blk_frozen hbx9 3
               have f94 : w9.frozen? ⟨tb, 4, none⟩ = false := blk_frozen hbx9 4
               clear hown9 hg9 hnil9 hat9 hbx9)
            | fail)
          go_ret
          exact ⟨⟨A6, g6, 0, c6, outs6⟩, _, _, rfl, HE.out.1, by rw [HNR.out]; exact HE.out.2.2, H6.out.2.2, (Kt.of_below HT8.out.2.1).trans HE.out.2.1⟩
theorem step_run {w0 W W' : World} {ops : Array Oper} {o : Oper} {a : Act} {Q : Exit → Act → World → Prop} {K : Act → World → Prop} {base : Nat} (hw : Region.wanted o (yielded ops a.tmps) = true) (s x : Operand)
    (ho : o.op = .call { callee := .builtin .append, args := #[s, x], argTypes := #[27, 27] }) (v : Value) (n : Nat) (xs : List Value) (r : Rn) (hW : W' = W.alloc (.cells #[.int .i64 r.f, .int .i64 r.l, .int .i64 r.n, .bool r.s] 47)) (hs : a.eval s = v) (hx : a.eval x = .slice (some ⟨W.heap.size, 0, none⟩) 1 1)
    (HO : W.ownsRow base 47 4 v n xs) (HB : Below base w0 W) (hbase : base ≤ W.heap.size) (hl : n ≤ 1000)
    (h : ∀ v1 w1, w1.ownsRow base 47 4 v1 (n + 1) (xs ++ r.cells) → Below base w0 w1 → W.grownBy w1 v.ownBlock → K (a.put o.dst v1) w1) :
    if Region.wanted o (yielded ops a.tmps) = true then Oper.wp Try.prog o a W' K Q else K (a.put o.dst undef) W' := by
  subst hW
  exact step_append_cells (w0 := w0) (W := W) base hw s x 27 47 (.agg #[.int .i64 0, .int .i64 0, .int .i64 0, .bool false]) 4 32 ho Try.underlying27 info_run rfl (by decide) (by decide) v n xs r.cells hs hx rfl (fun u hu => by
    simp only [Rn.cells, List.mem_cons, List.not_mem_nil, or_false] at hu
    rcases hu with rfl | rfl | rfl | rfl <;> rfl) HO HB hbase (by omega) (fun v1 w1 g1 g2 g3 g4 => h v1 w1 g1 g2 g3)
/-- A tree behind its runs' growth. -/
theorem TrI.grow {w0 : World} {R : Option Addr} {c : Nat} {gs : Gr} {keep m : Int} {tb n : Nat} {vr vs v9 : Value} {rows : List Re} {W W9 : World} {xs : List Value} (h : TrI w0 R c gs keep m tb vr vs rows W) (hro : W.ownsRow w0.heap.size 47 4 vr n xs) (hg : W.grownBy W9 vr.ownBlock) :
    W9.heap[tb]? = some (.cells #[.slice R gs.length c, .int .i64 keep, .int .i64 m, vr, vs] 29 (0, 0)) ∧ TrI w0 R c gs keep m tb v9 vs rows (W9.setCell ⟨tb, 3, none⟩ v9) ∧ Kt W (W9.setCell ⟨tb, 3, none⟩ v9) := by
  have hbx := box_grown h.bx hro hg
  have hk1 : Kt W W9 := Kt.grown (.inr rfl) hro hg
  have hT : TrI w0 R c gs keep m tb vr vs rows W9 := ⟨h.be.grown hg h.be.size (fun k hk => (hro.lt k hk).1), hbx, own_move h.own (fun k hk => hg.block k (h.own.lt k hk).2 (fun e => by
    obtain ⟨c1, e1⟩ := own_typed h.own k hk
    obtain ⟨c2, e2⟩ := own_typed hro k e.symm
    rw [e1] at e2
    cases e2)), h.tw, fun r hr => (h.rk r hr).kt hk1⟩
  obtain ⟨h2, hk2⟩ := hT.runs (vr' := v9)
  exact ⟨hbx, h2, hk1.trans hk2⟩
/-- What a row that is put in gives. -/
def AddR (w0 w : World) (R : Option Addr) (c : Nat) (gs : Gr) (keep m : Int) (tb : Nat) (rs : List Rn) (rows : List Re) (r : Re) (e : Ending) (w' : World) : Prop :=
  ∃ (vr' vs' : Value) (q : Bool), e = .returned (.bool (decide (chk gs keep m r.es = 0))) ∧ (chk gs keep m r.es = 0 → q = r.es.any fun x => staleE gs keep m x.k) ∧ TrI w0 R c gs keep m tb vr' vs' (rows ++ [r]) w' ∧
    w'.ownsRow w0.heap.size 47 4 vr' (rs ++ [(⟨rows.length, 0, r.es.length, q⟩ : Rn)]).length ((rs ++ [(⟨rows.length, 0, r.es.length, q⟩ : Rn)]).flatMap Rn.cells) ∧ Kt w w'
set_option maxRecDepth 100000 in
set_option maxHeartbeats 8000000 in
theorem tadd_c {w0 w : World} {R : Option Addr} {rb ro c tb : Nat} {gs : Gr} {keep m : Int} {vr vs : Value} {rows : List Re} {rs : List Rn} {r : Re} (hR : gs ≠ [] → R = some ⟨rb, ro, none⟩) (hG : GRow w0 rb ro gs) (hl : (gs.length : Int) ≤ 9223372036854775807) (h : TrI w0 R c gs keep m tb vr vs rows w) (hro : w.ownsRow w0.heap.size 47 4 vr rs.length (rs.flatMap Rn.cells)) (hrk : RowK w0 w r) (hok : EnOk r.es) (hn : r.es.length ≤ 1000) (h0 : 0 < rows.length) (hrn : rows.length ≤ 100) (hrs : rs.length ≤ 100) :
    Calls Try.prog 6 #[.pointer (some ⟨tb, 0, none⟩), .int .i64 0, r.v] w (AddR w0 w R c gs keep m tb rs rows r) := by
  obtain ⟨A, ab, ao, ac, es⟩ := r
  obtain ⟨g, cv, rfl, hcx, hgw⟩ := own_re h.own (j := 0) h0
  clear hcx
  obtain ⟨Ar, cr, rfl, hrx⟩ := row_slice hro
  clear hrx
  have hcl : ∀ W, Below w.heap.size w W → Calls Try.prog 11 #[rulV R gs.length c keep, .int .i64 m, .slice A es.length ac] W fun e w' => ∃ q, e = .returned (.tuple #[.bool q, .int .i64 (chk gs keep m es)]) ∧ (chk gs keep m es = 0 → q = es.any fun x => staleE gs keep m x.k) ∧ Below w.heap.size w w' := fun W hW => by
    have hbe := h.be.trans (hW.mono h.be.size)
    refine (stale_c (c := c) (c2 := ac) hR (hG.below hbe) hl hrk.at_ ((hrk.below hW).row hbe) (Nat.le_trans hn (by omega)) hok).mono ?_
    rintro e w' ⟨q, h1, h2, h3⟩
    exact ⟨q, h1, h2, hW.trans (h3.mono hW.size)⟩
  unfold rulV at hcl
  have HCL := Aside0.mk hcl
  have z0 : w.cell? ⟨tb, 0, none⟩ = some (.slice R gs.length c) := (blk_cell h.bx 0).trans rfl
  have z1 : w.cell? ⟨tb, 1, none⟩ = some (.int .i64 keep) := (blk_cell h.bx 1).trans rfl
  have z2 : w.cell? ⟨tb, 2, none⟩ = some (.int .i64 m) := (blk_cell h.bx 2).trans rfl
  have d0 : w.drew.cell? ⟨tb, 0, none⟩ = some (.slice R gs.length c) := z0
  have d1 : w.drew.cell? ⟨tb, 1, none⟩ = some (.int .i64 keep) := z1
  have d2 : w.drew.cell? ⟨tb, 2, none⟩ = some (.int .i64 m) := z2
  have HZ := Aside0.mk (And.intro z0 (And.intro z1 z2))
  have HH := Aside0.mk (And.intro h (And.intro hro (And.intro hrk (And.intro hgw (And.intro hn (And.intro h0 (And.intro hrn hrs)))))))
  unfold Re.v
  simp only
  clear hcl hR hG hl h hro hrk hok hn h0 hrn hrs hgw
  generalize hqc : chk gs keep m es = qc at HCL
  have HQC := Aside0.mk hqc
  clear hqc
  generalize hel : es.length = el at *
  have HEL := Aside0.mk hel
  clear hel
  go_enter Try.func6, Try.ntmps6
  go_wp2_with fail
  go_region_held3 (fun w' => w'.cell? ⟨tb, 0, none⟩ = some (.slice R gs.length c) ∧ w'.cell? ⟨tb, 1, none⟩ = some (.int .i64 keep) ∧ w'.cell? ⟨tb, 2, none⟩ = some (.int .i64 m)) (first | exact ⟨by assumption, by assumption, by assumption⟩ | (trace_state; fail)) (first | (go_at_call 11; refine (HCL.out _ (by (repeat' (first | with_reducible exact Below.refl _ _ | with_reducible assumption | with_reducible apply bdrew | with_reducible apply bdrewN | with_reducible apply balloc | with_reducible refine bset ?_ (Nat.le_refl _))))).mono ?_; rintro e w2 ⟨q, rfl, hq2, hb2⟩; have H2 := Aside0.mk (And.intro hq2 hb2); clear hq2 hb2; have y0 : w2.cell? ⟨tb, 0, none⟩ = some (.slice R gs.length c) := cell_below H2.out.2 HZ.out.1; have y1 : w2.cell? ⟨tb, 1, none⟩ = some (.int .i64 keep) := cell_below H2.out.2 HZ.out.2.1; have y2 : w2.cell? ⟨tb, 2, none⟩ = some (.int .i64 m) := cell_below H2.out.2 HZ.out.2.2))
  all_goals
    go_upto_region 2 with fail
    have hT2 := HH.out.1.below H2.out.2
    have k3 : w2.cell? ⟨tb, 3, none⟩ = some (.slice Ar rs.length cr) := (blk_cell hT2.bx 3).trans rfl
    have k4 : w2.cell? ⟨tb, 4, none⟩ = some (.slice (some ⟨g, 0, none⟩) rows.length cv) := (blk_cell hT2.bx 4).trans rfl
    have hb3 := (Below.refl _ w2).alloc (Nat.le_refl _) (.cells #[.slice A el ac] 31)
    have hT3 := hT2.below hb3
    have hB3 : Below w.heap.size w (w2.alloc (.cells #[.slice A el ac] 31)) := H2.out.2.trans (hb3.mono H2.out.2.size)
    have H3 := Aside0.mk (And.intro hT3 (And.intro hB3 (And.intro (own_below HH.out.2.1 hB3) (And.intro (HH.out.2.2.1.below hB3) hT3.be.size))))
    clear hT2 hb3 hT3 hB3 z0 z1 z2 d0 d1 d2 y0 y1 y2
    obtain ⟨i0, hi, hzz⟩ := Option.map_eq_some_iff.1 info_row
    simp only [Prod.mk.injEq] at hzz
    obtain ⟨hz0, hz1, hz2⟩ := hzz
    go_upto_region 3 with (first
      | (at_builtin
         refine wpList_append_own_at _ rfl _ _ 25 rfl w0.heap.size 31 i0 _ 1 24 Try.underlying25 hi hz0 hz1 hz2 rfl (by decide) _ _ _ rfl H3.out.1.own ⟨w2.heap.size, 0, none⟩ 1 1 [.slice A el ac] rfl rfl (cell_one_new _ _ _) (fun u hu => by obtain rfl := List.mem_singleton.1 hu; rfl) (by have := HH.out.2.2.2.2.2.2.1; simp only [maxLen]; omega) (by have := HH.out.2.2.2.2.2.2.1; omega) H3.out.2.2.2.2 ?_
         intro v4 w4 hown4 hg4 hnil4 hat4
         obtain ⟨A4, c4, rfl, _⟩ := row_slice hown4
         have hE := TrI.put (r := ⟨A, ab, ao, ac, es⟩) H3.out.1 hg4 (by rw [← HEL.out] at hown4; exact hown4) H3.out.2.2.2.1
         have hk4 : Kt (w2.alloc (.cells #[.slice A el ac] 31)) w4 := Kt.grown (.inl rfl) H3.out.1.own hg4
         have hro4 : w4.ownsRow w0.heap.size 47 4 (.slice Ar rs.length cr) rs.length (rs.flatMap Rn.cells) := own_move H3.out.2.2.1 (fun k hk => hg4.block k (H3.out.2.2.1.lt k hk).2 (fun e => by
           obtain ⟨c1, e1⟩ := own_typed H3.out.2.2.1 k hk
           obtain ⟨c2, e2⟩ := own_typed H3.out.1.own k e.symm
           rw [e1] at e2
           cases e2))
         have HE := Aside0.mk (And.intro hE hro4)
         have k43 : w4.cell? ⟨tb, 3, none⟩ = some (.slice Ar rs.length cr) := (blk_cell hE.1 3).trans rfl
         have k44 : w4.cell? ⟨tb, 4, none⟩ = some (.slice (some ⟨g, 0, none⟩) rows.length cv) := (blk_cell hE.1 4).trans rfl
         have f44 : w4.frozen? ⟨tb, 4, none⟩ = false := blk_frozen hE.1 4
         clear hown4 hg4 hnil4 hat4 hE hk4 hro4)
      | fail)
    have hT5 := HE.out.1.2.1
    have hro5 : (w4.setCell ⟨tb, 4, none⟩ (.slice A4 (rows.length + 1) c4)).ownsRow w0.heap.size 47 4 (.slice Ar rs.length cr) rs.length (rs.flatMap Rn.cells) := own_set HE.out.1.1 HE.out.2
    have hk5 := (Kt.of_below H3.out.2.1).trans HE.out.1.2.2
    generalize w4.setCell ⟨tb, 4, none⟩ (.slice A4 (rows.length + 1) c4) = w5 at *
    obtain ⟨nl, hnl⟩ : ∃ n, n = rows.length + 1 := ⟨_, rfl⟩
    rw [← hnl] at hT5
    have hw1 : IntKind.i64.wrap ((nl : Int) - 1) = (rows.length : Int) := by have := HH.out.2.2.2.2.2.2.1; rw [IntKind.wrap_i64]; omega
    have k53 : w5.cell? ⟨tb, 3, none⟩ = some (.slice Ar rs.length cr) := (blk_cell hT5.bx 3).trans rfl
    have k54 : w5.cell? ⟨tb, 4, none⟩ = some (.slice A4 nl c4) := (blk_cell hT5.bx 4).trans rfl
    have f53 : w5.frozen? ⟨tb, 3, none⟩ = false := blk_frozen hT5.bx 3
    have k53a : (w5.alloc (.cells #[.int .i64 (rows.length : Int), .int .i64 0, .int .i64 (el : Int), .bool q] 47)).cell? ⟨tb, 3, none⟩ = some (.slice Ar rs.length cr) := cell_below ((Below.refl _ w5).alloc (Nat.le_refl _) _) k53
    have HNL := Aside0.mk hnl
    have HT5 := Aside0.mk (And.intro (hT5.below (below_drew (Below.refl _ w5))) (And.intro (own_below hro5 (below_drew (Below.refl _ w5))) (hk5.trans (Kt.of_below (below_drew (Below.refl _ w5))))))
    clear hT5 hro5 hk5 k3 k4 k43 k44 f44 HE
    rw [← hnl]
    clear hnl
    go_region_law (refine step_run (w0 := w0) (W := w5.drew) (base := w0.heap.size) ?hw (.tmp 36) (.tmp 48) ?ho (.slice Ar rs.length cr) rs.length (rs.flatMap Rn.cells) ⟨rows.length, 0, el, q⟩ rfl ?hs ?hx ?hO ?hB ?hz ?hl ?_; (case hw => simp [Region.wanted]); (case ho => rfl); (case hs => simp [Act.eval, Act.put]); (case hx => simp [Act.eval, Act.put]); (case hO => exact HT5.out.2.1); (case hB => exact HT5.out.1.be); (case hz => exact HT5.out.1.be.size); (case hl => have := HH.out.2.2.2.2.2.2.2; omega); intro v6 w6 hown6 hB6 hg6; obtain ⟨A6, c6, rfl, _⟩ := row_slice hown6; have hE6 := TrI.grow (v9 := .slice A6 (rs.length + 1) c6) HT5.out.1 HT5.out.2.1 hg6; have k63 : w6.cell? ⟨tb, 3, none⟩ = some (.slice Ar rs.length cr) := (blk_cell hE6.1 3).trans rfl; have f63 : w6.frozen? ⟨tb, 3, none⟩ = false := blk_frozen hE6.1 3; have HE6 := Aside0.mk (And.intro hE6 hown6); clear hown6 hB6 hg6 hE6)
    all_goals
      go_wp2_with fail
      go_ret
      have h9 := own_set (i := 3) (u := .slice A6 (rs.length + 1) c6) HE6.out.1.1 HE6.out.2
      rw [← HEL.out] at h9
      refine ⟨_, _, q, ?_, fun hz => H2.out.1 (by rw [← HQC.out]; exact hz), HE6.out.1.2.1, by simpa using h9, HT5.out.2.2.trans HE6.out.1.2.2⟩
      show _ = Ending.returned (.bool (decide (chk gs keep m es = 0)))
      rw [HQC.out]
      rfl
end Go.Proofs.Ytoikaegohkolkaa.Top
