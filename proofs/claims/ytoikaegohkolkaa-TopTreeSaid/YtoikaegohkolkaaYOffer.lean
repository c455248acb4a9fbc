/-
  pick.Offer: what is offered of runs that are a tree; conditions: those that each theorem states.
-/
import Derived.Test.YtoikaegohkolkaaGD
namespace Go.Proofs.Ytoikaegohkolkaa.Top
set_option linter.unusedSimpArgs false
set_option linter.unusedVariables false
open Go.RowKit Go.Proofs.YtoikaegohkolkaaW.PrintWords Go.Proofs.YtoikaegohkolkaaW.PrintLast Go.Proofs.YtoikaegohkolkaaW.PrintMore
def fullLv : List Rn → Option Nat
  | [] => none
  | [x] => if x.l = 1 ∧ 64 < x.n then some 1 else if x.l = 2 ∧ 256 < x.n then some 2 else none
  | _ => some 0
theorem lvN_zero : ∀ {rs : List Rn}, (∀ x ∈ rs, x.l = 0) → lvN rs 0 = rs.length
  | [], _ => rfl
  | x :: r, h => by
    have h1 := h x (List.mem_cons_self ..)
    have h2 := lvN_zero fun y hy => h y (List.mem_cons_of_mem _ hy)
    unfold lvN at h2 ⊢
    rw [List.filter_cons_of_pos (by simp [h1]), List.length_cons, h2, List.length_cons]
theorem full_is {rs : List Rn} (h : RnOk rs) {lv : Nat} (hl : lv < 4) : fullB rs lv = decide (fullLv rs = some lv) ∨ (2 ≤ rs.length ∧ 0 < lv) := by
  match rs, h with
  | [], _ =>
    left
    obtain rfl | rfl | rfl | rfl : lv = 0 ∨ lv = 1 ∨ lv = 2 ∨ lv = 3 := by omega
    all_goals rfl
  | [x], h =>
    left
    have h1 := h.lv x (List.mem_cons_self ..)
    have h2 := h.np x (List.mem_cons_self ..)
    obtain ⟨xf, xl, xn, xs⟩ := x
    simp only at h1 h2
    obtain rfl | rfl | rfl | rfl : lv = 0 ∨ lv = 1 ∨ lv = 2 ∨ lv = 3 := by omega
    · have : lvN [(⟨xf, xl, xn, xs⟩ : Rn)] 0 ≤ 1 := lvN_le _ _
      have e : ¬ fullLv [(⟨xf, xl, xn, xs⟩ : Rn)] = some 0 := by
        unfold fullLv
        simp only
        split
        · simp
        · split <;> simp
      unfold fullB
      rw [if_pos rfl, decide_eq_false e, decide_eq_false (by omega)]
    · unfold fullB fullLv lvC lvC
      rw [show ((1 : Nat) : Int) = 1 from rfl]
      by_cases e : xl = 1
      · subst e
        by_cases e2 : 64 < xn
        · simp [e2]
        · simp [e2]
      · by_cases e3 : xl = 2
        · subst e3
          by_cases e2 : 256 < xn <;> simp [e2]
        · simp [e, e3]
    · unfold fullB fullLv lvC lvC
      rw [show ((2 : Nat) : Int) = 2 from rfl]
      by_cases e : xl = 2
      · subst e
        by_cases e2 : 256 < xn
        · simp [e2]
        · simp [e2]
      · by_cases e3 : xl = 1
        · subst e3
          by_cases e2 : 64 < xn <;> simp [e2]
        · simp [e, e3]
    · have e : ¬ fullLv [(⟨xf, xl, xn, xs⟩ : Rn)] = some 3 := by
        unfold fullLv
        simp only
        split
        · simp
        · split <;> simp
      unfold fullB
      rw [decide_eq_false e]
      simp
  | x :: y :: r, h =>
    by_cases h0 : lv = 0
    · left
      subst h0
      have hz : ∀ z ∈ x :: y :: r, z.l = 0 := by
        rcases h.l0 with h | h
        · simp at h
        · exact h
      unfold fullB fullLv
      rw [if_pos rfl, lvN_zero hz]
      simp
    · exact .inr ⟨by simp, by omega⟩
theorem full_lv {rs : List Rn} (h : RnOk rs) {lv : Nat} (hf : fullLv rs = some lv) : (∀ x ∈ rs, x.l = (lv : Int)) ∧ rs ≠ [] ∧ lv < 3 := by
  match rs, h with
  | [], _ => cases hf
  | [x], h =>
    unfold fullLv at hf
    simp only at hf
    split at hf
    · rename_i hc
      simp at hf
      subst hf
      exact ⟨by simp [hc.1], by simp, by omega⟩
    · split at hf
      · rename_i hc
        simp at hf
        subst hf
        exact ⟨by simp [hc.1], by simp, by omega⟩
      · cases hf
  | x :: y :: r, h =>
    unfold fullLv at hf
    simp at hf
    subst hf
    refine ⟨?_, by simp, by omega⟩
    rcases h.l0 with h | h
    · simp at h
    · exact h
def offerF (rs : List Rn) : Option (List Int × Int) :=
  match fullLv rs with
  | some lv => some (rs.map Rn.f, (lv : Int) + 1)
  | none => match rs with | [x] => if x.s then some ([x.f], x.l) else none | _ => none
/-- What the loops hold: the task under way, in its box. -/
structure OfI (w : World) (tb : Nat) (v : Value) (zs : List Int) (lv : Int) (W : World) : Prop where
  be : Below w.heap.size w W
  t2 : W.heap[w.heap.size]? = some (.cells #[.slice none 0 0, .int .i64 0] 38 (0, 0))
  t5 : W.heap[tb]? = some (.cells #[v, .int .i64 lv] 38 (0, 0))
  ow : W.ownsRow w.heap.size 3 1 v zs.length (zs.map (Value.int .i64))
  tw : w.heap.size < tb
theorem OfI.below {w W W1 : World} {tb : Nat} {v : Value} {zs : List Int} {lv : Int} (h : OfI w tb v zs lv W) (hb : Below W.heap.size W W1) : OfI w tb v zs lv W1 :=
  ⟨h.be.trans (hb.mono h.be.size), (hb.block _ (blk_lt h.t2)).trans h.t2, (hb.block _ (blk_lt h.t5)).trans h.t5, own_below h.ow hb, h.tw⟩
theorem OfI.lvl {w W : World} {tb : Nat} {v : Value} {zs : List Int} {lv : Int} (h : OfI w tb v zs lv W) (l : Int) : OfI w tb v zs l (W.setCell ⟨tb, 1, none⟩ (.int .i64 l)) :=
  ⟨h.be.setCell (p := ⟨tb, 1, none⟩) (Nat.le_of_lt h.tw) _, (Below.heap_setCell _ _ _ _ (by have := h.tw; simp only; omega)).trans h.t2, blk_put h.t5 1 _ rfl, own_set h.t5 h.ow, h.tw⟩
theorem OfI.add {w W W3 : World} {tb : Nat} {v v' : Value} {zs : List Int} {lv x : Int} (h : OfI w tb v zs lv W) (hg : W.grownBy W3 v.ownBlock) (ho : W3.ownsRow w.heap.size 3 1 v' (zs.length + 1) (zs.map (Value.int .i64) ++ [.int .i64 x])) : OfI w tb v' (zs ++ [x]) lv (W3.setCell ⟨tb, 0, none⟩ v') := by
  have h5 := box_grown h.t5 h.ow hg
  have h2 := box_grown h.t2 h.ow hg
  refine ⟨(h.be.grown hg h.be.size (fun k hk => (h.ow.lt k hk).1)).setCell (p := ⟨tb, 0, none⟩) (Nat.le_of_lt h.tw) _, (Below.heap_setCell _ _ _ _ (by have := h.tw; simp only; omega)).trans h2, blk_put h5 0 _ rfl, ?_, h.tw⟩
  rw [List.length_append, List.map_append]
  exact own_set h5 ho
theorem OfI.set {w W : World} {tb k i : Nat} {v u : Value} {zs : List Int} {lv : Int} {cs : Array Value} (h : OfI w tb v zs lv W) (hk : tb < k) (hc : W.heap[k]? = some (.cells cs 47 (0, 0))) : OfI w tb v zs lv (W.setCell ⟨k, i, none⟩ u) :=
  ⟨h.be.setCell (p := ⟨k, i, none⟩) (by have := h.tw; simp only; omega) _, (Below.heap_setCell _ _ _ _ (by have := h.tw; simp only; omega)).trans h.t2, (Below.heap_setCell _ _ _ _ (by simp only; omega)).trans h.t5, own_set hc h.ow, h.tw⟩
theorem zrow_own {W : World} {base c g : Nat} {zs : List Int} (h : W.ownsRow base 3 1 (.slice (some ⟨g, 0, none⟩) zs.length c) zs.length (zs.map (Value.int .i64))) : ZRow W g zs := fun j hj => by
  obtain ⟨A, c', e, hc⟩ := row_slice h
  cases e
  obtain ⟨g', e1, _, e2⟩ := hc j (by simpa using hj)
  simp only [Option.some.injEq, Addr.mk.injEq] at e1
  rw [← e1.1] at e2
  rw [e2, List.getElem?_map, List.getElem?_eq_getElem hj]
  rfl
theorem own_pos {w : World} {base : Nat} {e : TypeId} {size n : Nat} {v : Value} {xs : List Value} (h : w.ownsRow base e size v n xs) (h0 : 0 < n) : ∃ g cap cur, v = .slice (some ⟨g, 0, none⟩) n cap ∧ base ≤ g ∧ w.heap[g]? = some (.cells cur e (0, 0)) ∧ n ≤ cap ∧ cap ≤ maxLen ∧ cur.size = cap * size ∧ cur.toList.take (n * size) = xs := by
  rcases h.2 with ⟨_, h⟩ | h
  · omega
  · exact h
theorem slice_eqZ (w : World) (a : Addr) (n c : Nat) : (binOp .eql 36 (.slice (some a) n c) (.slice none 0 0)).run Try.prog w = .ok (.bool false) w := run_eql_slice_nil w _ _ (some a) n c Try.underlying36
theorem slice_eqZ0 (w : World) : (binOp .eql 36 (.slice none 0 0) (.slice none 0 0)).run Try.prog w = .ok (.bool true) w := run_eql_slice_nil w _ _ none 0 0 Try.underlying36
/-- The stale run that is offered, of one at most. -/
def bestF : List Rn → Rn
  | [] => ⟨0, 4, 0, false⟩
  | x :: _ => if x.s then x else ⟨0, 4, 0, false⟩
theorem bestF_one (x : Rn) : bestF [x] = if x.s then x else ⟨0, 4, 0, false⟩ := rfl
theorem best_none {rs : List Rn} (hok : RnOk rs) (h1 : fullLv rs = none) (h2 : rs.length ≤ 1) (h3 : (bestF rs).f = 0) : offerF rs = none := by
  unfold offerF
  rw [h1]
  match rs, hok with
  | [], _ => rfl
  | [x], hok =>
    have := hok.fp x (List.mem_cons_self ..)
    rw [bestF_one] at h3
    cases hs : x.s with
    | false => simp [hs]
    | true =>
      rw [hs] at h3
      simp at h3
      omega
  | x :: y :: r, _ => simp at h2
theorem best_some {rs : List Rn} (hok : RnOk rs) (h1 : fullLv rs = none) (h2 : rs.length ≤ 1) (h3 : (bestF rs).f ≠ 0) : offerF rs = some ([(bestF rs).f], (bestF rs).l) := by
  unfold offerF
  rw [h1]
  match rs, hok with
  | [], _ => exact absurd rfl h3
  | [x], hok =>
    rw [bestF_one] at h3 ⊢
    cases hs : x.s with
    | false =>
      rw [hs] at h3
      exact absurd rfl h3
    | true => simp [hs]
  | x :: y :: r, _ => simp at h2
/-- A task, as Offer tells it. -/
def OfR (w : World) (o : Option (List Int × Int)) (e : Ending) (w' : World) : Prop :=
  match o with
  | none => e = .returned (.tuple #[.agg #[.slice none 0 0, .int .i64 0], .bool false, .int .i64 0]) ∧ Below w.heap.size w w'
  | some (zs, lv) => ∃ (b c : Nat), e = .returned (.tuple #[.agg #[.slice (some ⟨b, 0, none⟩) zs.length c, .int .i64 lv], .bool true, .int .i64 0]) ∧ ZRow w' b zs ∧ zs.length ≤ c ∧ Below w.heap.size w w'
theorem info_int : (Try.prog.info? 3).map (fun i => (i.zero, i.size, i.bytes)) = some (some (.int .i64 0), 1, 8) := by kernel_rfl
set_option maxRecDepth 100000 in
set_option maxHeartbeats 2000000 in
theorem offer_c {w : World} {R : Option Addr} {b c : Nat} {rs : List Rn} (hR : rs ≠ [] → R = some ⟨b, 0, none⟩) (h : RnRow w b rs) (hok : RnOk rs) (hn : rs.length ≤ 8) :
    Calls Try.prog 8 #[.slice R rs.length c] w (OfR w (offerF rs)) := by
  have HR := Aside0.mk hR
  have H := Aside0.mk h
  have HOK := Aside0.mk hok
  have HI := Aside0.mk info_int
  have hB1 := (Below.refl _ w).alloc (Nat.le_refl _) (.cells #[.slice none 0 0, .int .i64 0] 38)
  have hT2 := al_new (W := w) (o := .cells #[.slice none 0 0, .int .i64 0] 38) rfl
  have HPR := Aside0.mk (pright_c (c := c) hR (h.below hB1) hok)
  clear hR h hok
  go_enter Try.func8, Try.ntmps8
  go_wp2_with (first | (go_at_call 15; refine HPR.out.mono ?_; rintro e w2 ⟨rfl, hb2⟩) | go_step3 | fail)
  have hT2b := (hb2.block _ (blk_lt hT2)).trans hT2
  have hs2 := hb2.size
  rw [World.size_alloc] at hs2
  have hO0 : OfI w w2.heap.size (.slice none 0 0) [] 0 (w2.alloc (.cells #[.slice none 0 0, .int .i64 0] 38)) :=
    ⟨(hB1.trans (hb2.mono hB1.size)).alloc (by omega) _, al_old hT2b _, al_new rfl, World.ownsRow_nil _ _ _ _, by omega⟩
  have HO0 := Aside0.mk hO0
  have hq1 := slice_eqZ
  have hq0 := slice_eqZ0
  clear hB1 hT2 HPR hb2 hT2b hs2 hO0
  generalize w2.alloc (.cells #[.slice none 0 0, .int .i64 0] 38) = w3 at *
  generalize w2.heap.size = tb at *
  go_loopw [16] (fun i wr => ∃ lv : Nat, i = .int .i64 lv ∧ lv ≤ 4 ∧ Aside0 (∀ l, l < lv → fullLv rs ≠ some l) ∧ Aside0 (OfI w tb (.slice none 0 0) [] 0 wr)) (fun i _ => 4 - (intOf i).toNat)
  case atStart => exact ⟨0, rfl, by omega, ⟨fun l hl => absurd hl (Nat.not_lt_zero _)⟩, HO0⟩
  case round =>
    clear HO0
    obtain ⟨lv, rfl, hlv, HN, HO⟩ := hrel
    by_cases hlt : lv < 4
    · have t1 : decide ((lv : Int) < 4) = true := decide_eq_true (by omega)
      have t2 : decide (lv < 4) = true := decide_eq_true hlt
      have HFC := Aside0.mk (pfull_c (c := c) HR.out (H.out.below HO.out.be) (by omega) HOK.out.np hlt)
      have hfb : fullB rs lv = decide (fullLv rs = some lv) := by
        rcases full_is HOK.out hlt with h | ⟨h1, h2⟩
        · exact h
        · exfalso
          refine HN.out 0 h2 ?_
          match rs, h1 with
          | x :: y :: r, _ => rfl
      have HFB := Aside0.mk hfb
      clear hfb
      by_cases hf : fullLv rs = some lv
      · rw [decide_eq_true hf] at HFB
        have HF := Aside0.mk hf
        have HAL := Aside0.mk (full_lv HOK.out hf)
        clear hf
        go_wp2_with (first | (go_at_call 16; refine HFC.out.mono ?_; rintro e w4 ⟨rfl, hb4⟩; rw [HFB.out]) | fail)
        have HO4 := Aside0.mk (HO.out.below hb4)
        clear hb4 HFC
        go_loopw [25] (fun i wr => ∃ (j : Nat) (v : Value), i = .int .i64 j ∧ j ≤ rs.length ∧ Aside0 (OfI w tb v ((rs.take j).map Rn.f) 0 wr)) (fun i _ => rs.length - (intOf i).toNat)
        case atStart => exact ⟨0, _, rfl, by omega, HO4⟩
        case round =>
          clear HO4 HO
          obtain ⟨j, v, rfl, hj, HO⟩ := hrel
          by_cases hlt2 : j < rs.length
          · have t3 : decide (j < rs.length) = true := decide_eq_true hlt2
            obtain rfl := HR.out (by intro e; rw [e] at hlt2; simp at hlt2)
            obtain ⟨x0, x1, x2, x3⟩ := (RnRow.below H.out HO.out.be).cells hlt2
            have hxl := HAL.out.1 _ (List.getElem_mem hlt2)
            have htk : (rs.take (j + 1)).map Rn.f = (rs.take j).map Rn.f ++ [rs[j].f] := by rw [List.take_succ_eq_append_getElem hlt2, List.map_append]; rfl
            have HTK := Aside0.mk htk
            have hzl : ((rs.take j).map Rn.f).length ≤ 8 := by rw [List.length_map, List.length_take]; omega
            generalize (rs.take j).map Rn.f = zs at *
            generalize rs[j] = x at *
            obtain ⟨xf, xl, xn, xs⟩ := x
            simp only at x0 x1 x2 x3 hxl
            subst hxl
            clear htk
            have hOA := HO.out.below ((Below.refl _ wr).alloc (Nat.le_refl _) (.cells #[.int .i64 xf, .int .i64 (lv : Int), .int .i64 xn, .bool xs] 47))
            have hK1 := al_new (W := wr) (o := .cells #[.int .i64 xf, .int .i64 (lv : Int), .int .i64 xn, .bool xs] 47) rfl
            have e1 : ((lv : Int) == (lv : Int)) = true := by simp
            go_upto_region 12 with fail
            generalize wr.alloc (.cells #[.int .i64 xf, .int .i64 (lv : Int), .int .i64 xn, .bool xs] 47) = W1 at *
            have c0 : W1.cell? ⟨wr.heap.size, 0, none⟩ = some (.int .i64 xf) := (blk_cell hK1 0).trans rfl
            have c5 : W1.cell? ⟨tb, 0, none⟩ = some v := (blk_cell hOA.t5 0).trans rfl
            obtain ⟨i0, hi, hzz⟩ := Option.map_eq_some_iff.1 HI.out
            simp only [Prod.mk.injEq] at hzz
            obtain ⟨hz0, hz1, hz2⟩ := hzz
            have HOA := Aside0.mk hOA
            have hbs := hOA.be.size
            clear x0 x1 x2 x3 hK1 hOA HO
            go_wp2_with (first
              | (at_builtin
                 refine wpList_append_own_at _ rfl _ _ 36 rfl w.heap.size 3 i0 _ 1 8 Try.underlying36 hi hz0 hz1 hz2 rfl (by decide) _ _ _ rfl (HOA.out.ow.alloc _) ⟨W1.heap.size, 0, none⟩ 1 1 [.int .i64 xf] rfl rfl (cell_one_new _ _ _) (ints_oneCell .i64 [xf]) (by simp only [maxLen]; omega) (by omega) (by rw [World.size_alloc]; omega) ?_
                 intro v' w6 hown6 hg6 hnil6 hat6
                 have hOA2 := HOA.out.below ((Below.refl _ W1).alloc (Nat.le_refl _) (.cells #[.int .i64 xf] 3))
                 have hg7 : (W1.alloc (.cells #[.int .i64 xf] 3)).grownBy w6 v.ownBlock := hg6
                 obtain ⟨A6, c6, rfl, _⟩ := row_slice hown6
                 have HN6 := Aside0.mk (hOA2.add hg7 hown6)
                 have h5 := box_grown hOA2.t5 hOA2.ow hg7
                 have f5 : w6.frozen? ⟨tb, 0, none⟩ = false := blk_frozen h5 0
                 have k5 : w6.cell? ⟨tb, 0, none⟩ = some v := (blk_cell h5 0).trans rfl
                 clear hg6 hg7 hnil6 hat6 hown6 h5 hOA2)
              | fail)
            go_roundw
            case rel => exact ⟨j + 1, _, by go_num, by omega, ⟨by rw [HTK.out]; exact HN6.out⟩⟩
            case measure => simp [intOf]; omega
          · obtain rfl : j = rs.length := by omega
            have t3 : decide (rs.length < rs.length) = false := decide_eq_false hlt2
            have hO := HO.out
            rw [List.take_length] at hO
            have hrl : 0 < rs.length := List.length_pos_iff.2 HAL.out.2.1
            obtain ⟨g, cp, cur, rfl, hgb, hgc, hgn, _⟩ := own_pos hO.ow (by rw [List.length_map]; exact hrl)
            rw [List.length_map] at hgn
            have f1 : wr.frozen? ⟨tb, 1, none⟩ = false := blk_frozen hO.t5 1
            have k1 : wr.cell? ⟨tb, 1, none⟩ = some (.int .i64 0) := (blk_cell hO.t5 1).trans rfl
            have HLV := Aside0.mk (hO.lvl ((lv : Int) + 1))
            rw [List.length_map] at HLV
            clear HO hO hgc
            go_upto_region 16 with fail
            generalize wr.setCell ⟨tb, 1, none⟩ (.int .i64 ((lv : Int) + 1)) = W7 at *
            have k0 : W7.cell? ⟨tb, 0, none⟩ = some (.slice (some ⟨g, 0, none⟩) rs.length cp) := (blk_cell HLV.out.t5 0).trans rfl
            have hzr : ZRow W7 g (rs.map Rn.f) := zrow_own (c := cp) (by have := HLV.out.ow; rwa [List.length_map]  at this ⊢)
            have hso := sort_c (c := cp) (fun _ => rfl) hzr (List.pairwise_map.2 HOK.out.df) (by rw [List.length_map]; omega)
            rw [List.length_map] at hso
            have HSO := Aside0.mk hso
            have HZR := Aside0.mk hzr
            clear hso hzr f1 k1
            go_upto_region 28 with (first
              | (go_at_call 17
                 refine HSO.out.mono ?_
                 rintro e w8 ⟨rfl, hb8⟩)
              | fail)
            have hO8 := HLV.out.below hb8
            have z8 := HZR.out.below hb8
            have q0 : w8.cell? ⟨tb, 0, none⟩ = some (.slice (some ⟨g, 0, none⟩) rs.length cp) := (blk_cell hO8.t5 0).trans rfl
            have q1 : w8.cell? ⟨tb, 1, none⟩ = some (.int .i64 ((lv : Int) + 1)) := (blk_cell hO8.t5 1).trans rfl
            have s0 : w8.cell? ⟨w.heap.size, 0, none⟩ = some (.slice none 0 0) := (blk_cell hO8.t2 0).trans rfl
            have s1 : w8.cell? ⟨w.heap.size, 1, none⟩ = some (.int .i64 0) := (blk_cell hO8.t2 1).trans rfl
            have r0 := blk_frozen hO8.t2 0
            have r1 := blk_frozen hO8.t2 1
            have hR2 := blk_put (blk_put hO8.t2 0 (.slice (some ⟨g, 0, none⟩) rs.length cp) rfl) 1 (.int .i64 ((lv : Int) + 1)) rfl
            have hB2 := (hO8.be.setCell (p := ⟨w.heap.size, 0, none⟩) (Nat.le_refl _) (.slice (some ⟨g, 0, none⟩) rs.length cp)).setCell (p := ⟨w.heap.size, 1, none⟩) (Nat.le_refl _) (.int .i64 ((lv : Int) + 1))
            have hZ2 : ZRow ((w8.setCell ⟨w.heap.size, 0, none⟩ (.slice (some ⟨g, 0, none⟩) rs.length cp)).setCell ⟨w.heap.size, 1, none⟩ (.int .i64 ((lv : Int) + 1))) g (rs.map Rn.f) := zrow_own (c := cp) (by
              have := own_set (i := 1) (u := .int .i64 ((lv : Int) + 1)) (blk_put hO8.t2 0 (.slice (some ⟨g, 0, none⟩) rs.length cp) rfl) (own_set (i := 0) (u := .slice (some ⟨g, 0, none⟩) rs.length cp) hO8.t2 hO8.ow)
              rwa [List.length_map] at this ⊢)
            have HO8 := Aside0.mk hO8
            have HR2 := Aside0.mk hR2
            have HB2 := Aside0.mk hB2
            have HZ2 := Aside0.mk hZ2
            clear hO8 z8 HZR hb8 HSO hR2 hB2 hZ2
            go_wp2_with fail
            refine noGoto_ret ?_
            refine bodyPost_ret (results3_row rfl _ _ w.heap.size 38 _ (0, 0) _ rfl HR2.out Try.underlying38 rfl (by kernel_rfl)) rfl ?_
            unfold offerF OfR
            rw [HF.out]
            exact ⟨g, cp, by simp, HZ2.out, by simpa using hgn, HB2.out⟩
      · rw [decide_eq_false hf] at HFB
        have HF := Aside0.mk hf
        clear hf
        go_wp2_with (first | (go_at_call 16; refine HFC.out.mono ?_; rintro e w4 ⟨rfl, hb4⟩; rw [HFB.out]) | fail)
        go_roundw
        case rel => exact ⟨lv + 1, by go_num, by omega, ⟨fun l hl => by
          by_cases e : l = lv
          · rw [e]; exact HF.out
          · exact HN.out l (by omega)⟩, ⟨HO.out.below hb4⟩⟩
        case measure => simp [intOf]; omega
    · obtain rfl : lv = 4 := by omega
      have t1 : decide ((4 : Int) < 4) = false := rfl
      have hnone : fullLv rs = none := by
        cases h : fullLv rs with
        | none => rfl
        | some l => exact absurd h (HN.out l (by have := (full_lv HOK.out h).2.2; omega))
      have hn1 : rs.length ≤ 1 := by
        match rs, hnone with
        | [], _ => simp
        | [x], _ => simp
        | x :: y :: r, h => cases h
      have HNO := Aside0.mk hnone
      clear hnone
      have k0 : wr.cell? ⟨tb, 0, none⟩ = some (.slice none 0 0) := (blk_cell HO.out.t5 0).trans rfl
      go_upto_region 18 with fail
      have hO1 := HO.out.below ((Below.refl _ wr).alloc (Nat.le_refl _) (.cells #[.int .i64 0, .int .i64 4, .int .i64 0, .bool false] 47))
      have hK1 := al_new (W := wr) (o := .cells #[.int .i64 0, .int .i64 4, .int .i64 0, .bool false] 47) rfl
      have hkb : tb < wr.heap.size := blk_lt HO.out.t5
      generalize wr.alloc (.cells #[.int .i64 0, .int .i64 4, .int .i64 0, .bool false] 47) = W1 at *
      generalize wr.heap.size = kb at *
      have HO1 := Aside0.mk hO1
      have HK1 := Aside0.mk hK1
      clear hO1 hK1 k0 HO
      go_wp2_with fail
      go_loopw [58] (fun i wr => ∃ (j : Nat), i = .int .i64 j ∧ j ≤ rs.length ∧ Aside0 (OfI w tb (.slice none 0 0) [] 0 wr) ∧ Aside0 (wr.heap[kb]? = some (.cells (bestF (rs.take j)).cells.toArray 47 (0, 0)))) (fun i _ => rs.length - (intOf i).toNat)
      case atStart => exact ⟨0, rfl, by omega, HO1, HK1⟩
      case round =>
        clear HO1 HK1
        obtain ⟨j, rfl, hj, HO, HK⟩ := hrel
        by_cases hlt2 : j < rs.length
        · obtain rfl : j = 0 := by omega
          have t3 : decide (0 < rs.length) = true := decide_eq_true hlt2
          have t3' : decide ((0 : Int) < (rs.length : Int)) = true := decide_eq_true (by omega)
          obtain rfl := HR.out (by intro e; rw [e] at hlt2; simp at hlt2)
          obtain ⟨x0, x1, x2, x3⟩ := (RnRow.below H.out HO.out.be).cells hlt2
          have hlv := HOK.out.lv _ (List.getElem_mem hlt2)
          have htk : rs.take (0 + 1) = [rs[0]] := by rw [List.take_succ_eq_append_getElem hlt2]; rfl
          have HTK := Aside0.mk htk
          generalize rs[0] = x at *
          obtain ⟨xf, xl, xn, xs⟩ := x
          simp only [Nat.zero_mul, Nat.zero_add] at x0 x1 x2 x3 hlv
          clear htk
          have t4 : decide (xl < 4) = true := decide_eq_true (by omega)
          have hOA := HO.out.below ((Below.refl _ wr).alloc (Nat.le_refl _) (.cells #[.int .i64 xf, .int .i64 xl, .int .i64 xn, .bool xs] 47))
          have hKA := al_old HK.out (.cells #[.int .i64 xf, .int .i64 xl, .int .i64 xn, .bool xs] 47)
          have hN1 := al_new (W := wr) (o := .cells #[.int .i64 xf, .int .i64 xl, .int .i64 xn, .bool xs] 47) rfl
          have y0 : (wr.alloc (.cells #[.int .i64 xf, .int .i64 xl, .int .i64 xn, .bool xs] 47)).cell? ⟨kb, 0, none⟩ = some (.int .i64 0) := (blk_cell hKA 0).trans rfl
          have y1 : (wr.alloc (.cells #[.int .i64 xf, .int .i64 xl, .int .i64 xn, .bool xs] 47)).cell? ⟨kb, 1, none⟩ = some (.int .i64 4) := (blk_cell hKA 1).trans rfl
          have HOA := Aside0.mk hOA
          have HKA := Aside0.mk hKA
          cases xs with
          | false =>
            clear hOA hKA hN1
            go_wp2_with fail
            go_roundw
            case rel => exact ⟨1, by go_num, by omega, HOA, ⟨by rw [HTK.out]; exact HKA.out⟩⟩
            case measure => simp [intOf]; omega
          | true =>
            clear hOA hKA
            go_upto_region 22 with fail
            generalize wr.alloc (.cells #[.int .i64 xf, .int .i64 xl, .int .i64 xn, .bool true] 47) = W2 at *
            have y2 : W2.cell? ⟨kb, 2, none⟩ = some (.int .i64 0) := (blk_cell HKA.out 2).trans rfl
            have y3 : W2.cell? ⟨kb, 3, none⟩ = some (.bool false) := (blk_cell HKA.out 3).trans rfl
            have f0 := blk_frozen HKA.out 0
            have f1 := blk_frozen HKA.out 1
            have f2 := blk_frozen HKA.out 2
            have f3 := blk_frozen HKA.out 3
            have z0 : W2.cell? ⟨wr.heap.size, 0, none⟩ = some (.int .i64 xf) := (blk_cell hN1 0).trans rfl
            have z1 : W2.cell? ⟨wr.heap.size, 1, none⟩ = some (.int .i64 xl) := (blk_cell hN1 1).trans rfl
            have z2 : W2.cell? ⟨wr.heap.size, 2, none⟩ = some (.int .i64 xn) := (blk_cell hN1 2).trans rfl
            have z3 : W2.cell? ⟨wr.heap.size, 3, none⟩ = some (.bool true) := (blk_cell hN1 3).trans rfl
            have b0 := HKA.out
            have b1 := blk_put b0 0 (.int .i64 xf) rfl
            have b2 := blk_put b1 1 (.int .i64 xl) rfl
            have b3 := blk_put b2 2 (.int .i64 xn) rfl
            have b4 := blk_put b3 3 (.bool true) rfl
            have o4 := ((((HOA.out.set (i := 0) (u := .int .i64 xf) hkb b0).set (i := 1) (u := .int .i64 xl) hkb b1).set (i := 2) (u := .int .i64 xn) hkb b2).set (i := 3) (u := .bool true) hkb b3)
            have B4 := Aside0.mk b4
            have O4 := Aside0.mk o4
            clear b0 b1 b2 b3 b4 o4 hN1 x0 x1 x2 x3
            go_wp2_with fail
            go_roundw
            case rel => exact ⟨1, by go_num, by omega, O4, ⟨by rw [HTK.out]; exact B4.out⟩⟩
            case measure => simp [intOf]; omega
        · obtain rfl : j = rs.length := by omega
          have t3 : decide (rs.length < rs.length) = false := decide_eq_false hlt2
          rw [List.take_length] at HK
          have hO := HO.out
          have hK := HK.out
          have y0 : wr.cell? ⟨kb, 0, none⟩ = some (.int .i64 (bestF rs).f) := (blk_cell hK 0).trans rfl
          have y1 : wr.cell? ⟨kb, 1, none⟩ = some (.int .i64 (bestF rs).l) := (blk_cell hK 1).trans rfl
          by_cases hbz : (bestF rs).f = 0
          · have e1 : ((bestF rs).f == 0) = true := by simp [hbz]
            have s0 : wr.cell? ⟨w.heap.size, 0, none⟩ = some (.slice none 0 0) := (blk_cell hO.t2 0).trans rfl
            have s1 : wr.cell? ⟨w.heap.size, 1, none⟩ = some (.int .i64 0) := (blk_cell hO.t2 1).trans rfl
            have r0 := blk_frozen hO.t2 0
            have r1 := blk_frozen hO.t2 1
            have hR2 := blk_put (blk_put hO.t2 0 (.slice none 0 0) rfl) 1 (.int .i64 0) rfl
            have hB2 := (hO.be.setCell (p := ⟨w.heap.size, 0, none⟩) (Nat.le_refl _) (.slice none 0 0)).setCell (p := ⟨w.heap.size, 1, none⟩) (Nat.le_refl _) (.int .i64 0)
            have HR2 := Aside0.mk hR2
            have HB2 := Aside0.mk hB2
            have HOF := Aside0.mk (best_none HOK.out HNO.out hn1 hbz)
            have HBZ := Aside0.mk hbz
            clear hR2 hB2 hO hK hbz
            generalize (bestF rs).l = bl at *
            generalize (bestF rs).f = bf at *
            go_wp2_with fail
            refine noGoto_ret ?_
            refine bodyPost_ret (results3_row rfl _ _ w.heap.size 38 _ (0, 0) _ rfl HR2.out Try.underlying38 rfl (by kernel_rfl)) rfl ?_
            unfold OfR
            rw [HOF.out]
            exact ⟨rfl, HB2.out⟩
          · have e1 : ((bestF rs).f == 0) = false := by simp [hbz]
            have HOF := Aside0.mk (best_some HOK.out HNO.out hn1 hbz)
            have f0 := blk_frozen hO.t5 0
            have f1 := blk_frozen hO.t5 1
            have HKc := Aside0.mk hK
            generalize (bestF rs).l = bl at *
            generalize (bestF rs).f = bf at *
            have hOA := hO.below ((Below.refl _ wr).alloc (Nat.le_refl _) (.cells #[.int .i64 bf] 3))
            have hN1 := al_new (W := wr) (o := .cells #[.int .i64 bf] 3) rfl
            have q0 : (wr.alloc (.cells #[.int .i64 bf] 3)).cell? ⟨tb, 0, none⟩ = some (.slice none 0 0) := (blk_cell hOA.t5 0).trans rfl
            have q1 : (wr.alloc (.cells #[.int .i64 bf] 3)).cell? ⟨tb, 1, none⟩ = some (.int .i64 0) := (blk_cell hOA.t5 1).trans rfl
            have g0 := blk_frozen hOA.t5 0
            have g1 := blk_frozen hOA.t5 1
            have y1' : (wr.alloc (.cells #[.int .i64 bf] 3)).cell? ⟨kb, 1, none⟩ = some (.int .i64 bl) := cell_below ((Below.refl _ wr).alloc (Nat.le_refl _) (.cells #[.int .i64 bf] 3)) y1
            have hnt : wr.heap.size ≠ tb := Ne.symm (Nat.ne_of_lt (blk_lt hO.t5))
            have hnw : wr.heap.size ≠ w.heap.size := Ne.symm (Nat.ne_of_lt (blk_lt hO.t2))
            have h5 := blk_put (blk_put hOA.t5 0 (.slice (some ⟨wr.heap.size, 0, none⟩) 1 1) rfl) 1 (.int .i64 bl) rfl
            have h2 : (((wr.alloc (.cells #[.int .i64 bf] 3)).setCell ⟨tb, 0, none⟩ (.slice (some ⟨wr.heap.size, 0, none⟩) 1 1)).setCell ⟨tb, 1, none⟩ (.int .i64 bl)).heap[w.heap.size]? = _ := (Below.heap_setCell _ _ _ _ (by have := hO.tw; simp only; omega)).trans ((Below.heap_setCell _ _ _ _ (by have := hO.tw; simp only; omega)).trans hOA.t2)
            have hz : (((wr.alloc (.cells #[.int .i64 bf] 3)).setCell ⟨tb, 0, none⟩ (.slice (some ⟨wr.heap.size, 0, none⟩) 1 1)).setCell ⟨tb, 1, none⟩ (.int .i64 bl)).heap[wr.heap.size]? = _ := (Below.heap_setCell _ _ _ _ hnt).trans ((Below.heap_setCell _ _ _ _ hnt).trans hN1)
            have hBs := (hOA.be.setCell (p := ⟨tb, 0, none⟩) (Nat.le_of_lt hO.tw) (.slice (some ⟨wr.heap.size, 0, none⟩) 1 1)).setCell (p := ⟨tb, 1, none⟩) (Nat.le_of_lt hO.tw) (.int .i64 bl)
            have H5 := Aside0.mk h5
            have H2 := Aside0.mk h2
            have HZ := Aside0.mk hz
            have HBs := Aside0.mk hBs
            clear hO hK hOA hN1 h5 h2 hz hBs
            go_upto_region 27 with fail
            generalize ((wr.alloc (.cells #[.int .i64 bf] 3)).setCell ⟨tb, 0, none⟩ (.slice (some ⟨wr.heap.size, 0, none⟩) 1 1)).setCell ⟨tb, 1, none⟩ (.int .i64 bl) = W7 at *
            generalize wr.heap.size = g at *
            have hzr : ZRow W7 g [bf] := fun j hj => by
              obtain rfl : j = 0 := by simp at hj; omega
              exact (blk_cell HZ.out 0).trans rfl
            have k0 : W7.cell? ⟨tb, 0, none⟩ = some (.slice (some ⟨g, 0, none⟩) 1 1) := (blk_cell H5.out 0).trans rfl
            have hso := sort_c (c := 1) (fun _ => rfl) hzr (List.pairwise_singleton _ _) (by simp)
            simp only [List.length_cons, List.length_nil, Nat.zero_add] at hso
            have HSO := Aside0.mk hso
            have HZR := Aside0.mk hzr
            clear hso hzr q0 q1 g0 g1 y1'
            go_upto_region 28 with (first
              | (go_at_call 17
                 refine HSO.out.mono ?_
                 rintro e w8 ⟨rfl, hb8⟩)
              | fail)
            have h58 := (hb8.block _ (blk_lt H5.out)).trans H5.out
            have h28 := (hb8.block _ (blk_lt H2.out)).trans H2.out
            have z8 := (hb8.block _ (blk_lt HZ.out)).trans HZ.out
            have hB8 := HBs.out.trans (hb8.mono HBs.out.size)
            have q0 : w8.cell? ⟨tb, 0, none⟩ = some (.slice (some ⟨g, 0, none⟩) 1 1) := (blk_cell h58 0).trans rfl
            have q1 : w8.cell? ⟨tb, 1, none⟩ = some (.int .i64 bl) := (blk_cell h58 1).trans rfl
            have s0 : w8.cell? ⟨w.heap.size, 0, none⟩ = some (.slice none 0 0) := (blk_cell h28 0).trans rfl
            have s1 : w8.cell? ⟨w.heap.size, 1, none⟩ = some (.int .i64 0) := (blk_cell h28 1).trans rfl
            have r0 := blk_frozen h28 0
            have r1 := blk_frozen h28 1
            have hR2 := blk_put (blk_put h28 0 (.slice (some ⟨g, 0, none⟩) 1 1) rfl) 1 (.int .i64 bl) rfl
            have hB2 := (hB8.setCell (p := ⟨w.heap.size, 0, none⟩) (Nat.le_refl _) (.slice (some ⟨g, 0, none⟩) 1 1)).setCell (p := ⟨w.heap.size, 1, none⟩) (Nat.le_refl _) (.int .i64 bl)
            have hZ2 : ZRow ((w8.setCell ⟨w.heap.size, 0, none⟩ (.slice (some ⟨g, 0, none⟩) 1 1)).setCell ⟨w.heap.size, 1, none⟩ (.int .i64 bl)) g [bf] := fun j hj => by
              obtain rfl : j = 0 := by simp at hj; omega
              exact (blk_cell ((Below.heap_setCell _ _ _ _ hnw).trans ((Below.heap_setCell _ _ _ _ hnw).trans z8)) 0).trans rfl
            have HR2 := Aside0.mk hR2
            have HB2 := Aside0.mk hB2
            have HZ2 := Aside0.mk hZ2
            clear h58 h28 z8 hB8 HZR hb8 HSO hR2 hB2 hZ2
            go_wp2_with fail
            refine noGoto_ret ?_
            refine bodyPost_ret (results3_row rfl _ _ w.heap.size 38 _ (0, 0) _ rfl HR2.out Try.underlying38 rfl (by kernel_rfl)) rfl ?_
            unfold OfR
            rw [HOF.out]
            exact ⟨g, 1, rfl, HZ2.out, by simp, HB2.out⟩
end Go.Proofs.Ytoikaegohkolkaa.Top
