/-
  A table's Get and All; conditions: those that each theorem states.
-/
import Derived.Test.YthabkdbhjioalaaGP
namespace Go.Proofs.Ythabkdbhjioalaa.Top
set_option linter.unusedSimpArgs false
set_option linter.unusedVariables false
open Go.RowKit Go.Proofs.YthabkdbhjioalaaW.PrintWords Go.Proofs.YthabkdbhjioalaaW.PrintLast Go.Proofs.YthabkdbhjioalaaW.PrintMore Go.Proofs.Ythabkdbhjioalaa.Plain Go.Proofs.Ythabkdbhjioalaa.Fns
def headK : Kas → List Int → Ag × Bool
  | [], _ => (noA, false)
  | x :: _, k => if x.1 = k then (x.2, true) else (noA, false)
def tgetF (kas : Kas) (k : List Int) : Ag × Bool := if mayF (fltF kas) k 6 = true then headK (seekF kas k 1) k else (noA, false)
theorem tall_c {w : World} {base T : Nat} {kas : Kas} (h : TbAt w base T kas) (hok : EOk kas) (hn : kas.length ≤ 80) :
    Calls Try.prog 20 #[.pointer (some ⟨T, 0, none⟩)] w fun e w' => ∃ (v : Value) (xs : List Ent), e = .returned v ∧ w'.ownsRow w.heap.size 36 7 v xs.length (xs.flatMap Ent.cells) ∧ xs.map Ent.ka = kas ∧ (∀ x ∈ xs, EOwn w.heap.size w' x) ∧ Below w.heap.size w w' := by
  have hs := tseek_c (m := 4096) (A := none) (k := []) (c := 0) h hok hn (RdB.nil _ _) (fun x hx => by cases hx) (by omega)
  have e0 : seekF kas [] 4096 = kas := by
    unfold seekF
    rw [List.filter_eq_self.2 (fun x _ => by cases x.1 <;> rfl), List.take_of_length_le (by omega)]
  rw [e0] at hs
  have HS := Aside0.mk hs
  clear h hok hn hs e0
  go_enter Try.func20, Try.ntmps20
  go_wp2_with (first | (go_at_call 19; refine HS.out.mono ?_; rintro e w2 ⟨v, xs, rfl, h1, h2, h3, h4⟩) | fail)
  go_ret
  exact ⟨v, xs, rfl, h1, h2, h3, h4⟩
set_option maxHeartbeats 2000000 in
set_option maxRecDepth 100000 in
theorem tget_c {w : World} {base T c : Nat} {A : Option Addr} {k : List Int} {kas : Kas} (h : TbAt w base T kas) (hok : EOk kas) (hn : kas.length ≤ 80) (hk : RdB w A k) (hkc : k.length ≤ c) (hkl : k.length ≤ 1000000) (hb : Byt k) :
    Calls Try.prog 15 #[.pointer (some ⟨T, 0, none⟩), .slice A k.length c] w fun e w' => e = .returned (.tuple #[(tgetF kas k).1.v, .bool (tgetF kas k).2]) ∧ Below w.heap.size w w' := by
  obtain ⟨w1, hw1⟩ : ∃ w1, w.alloc (.cells #[.int .u64 0, .bool false, .int .i64 0, .int .u64 0, .int .i64 0, .int .i64 0] 34) = w1 := ⟨_, rfl⟩
  have hB1 : Below w.heap.size w w1 := by rw [← hw1]; exact (Below.refl _ w).alloc (Nat.le_refl _) _
  have hR1 : w1.heap[w.heap.size]? = some (.cells #[.int .u64 0, .bool false, .int .i64 0, .int .u64 0, .int .i64 0, .int .i64 0] 34 (0, 0)) := by rw [← hw1]; exact al_new rfl
  have hm := tmay_c (c := c) (h.below hB1) (hk.below hB1) hkl hb
  rw [← hw1] at hm
  have hkB : ∀ z ∈ seekF kas k 1, Byt z.1 := fun z hz => (hok.k z ((List.mem_filter.1 (List.mem_of_mem_take hz)).1)).1
  have HK := Aside0.mk hk
  have HW := Aside0.mk hw1
  have HT := Aside0.mk h
  have HOK := Aside0.mk hok
  unfold tgetF
  generalize mayF (fltF kas) k 6 = may at *
  clear h hok hk hw1
  go_enter Try.func15, Try.ntmps15
  go_wp2_with fail
  refine hm.mono ?_
  rintro e wm ⟨rfl, hbm⟩
  rw [HW.out] at hbm
  clear hm
  have hBm := hB1.trans (hbm.mono hB1.size)
  have hRm := (hbm.block _ (blk_lt hR1)).trans hR1
  cases may with
  | false =>
    obtain ⟨g0, hg0⟩ : ∃ g0, g0 = w.heap.size := ⟨_, rfl⟩
    have HG := Aside0.mk hg0
    rw [← hg0] at hRm
    have f0 := blk_frozen hRm 0
    have f1 := blk_frozen hRm 1
    have f2 := blk_frozen hRm 2
    have f3 := blk_frozen hRm 3
    have f4 := blk_frozen hRm 4
    have f5 := blk_frozen hRm 5
    have y0 : wm.cell? ⟨g0, 0, none⟩ = some (.int .u64 0) := (blk_cell hRm 0).trans rfl
    have y1 : wm.cell? ⟨g0, 1, none⟩ = some (.bool false) := (blk_cell hRm 1).trans rfl
    have y2 : wm.cell? ⟨g0, 2, none⟩ = some (.int .i64 0) := (blk_cell hRm 2).trans rfl
    have y3 : wm.cell? ⟨g0, 3, none⟩ = some (.int .u64 0) := (blk_cell hRm 3).trans rfl
    have y4 : wm.cell? ⟨g0, 4, none⟩ = some (.int .i64 0) := (blk_cell hRm 4).trans rfl
    have y5 : wm.cell? ⟨g0, 5, none⟩ = some (.int .i64 0) := (blk_cell hRm 5).trans rfl
    rw [← hg0]
    clear hg0
    go_wp2
    refine bodyPost_ret (results_ct rfl _ _ g0 34 #[.int .u64 0, .bool false, .int .i64 0, .int .u64 0, .int .i64 0, .int .i64 0] (0, 0) _ rfl (blk_six hRm _ _ _ _ _ _) Try.underlying34 rfl (by kernel_rfl)) rfl ?_
    rw [HG.out]
    exact ⟨rfl, below_six hBm (Nat.le_refl _) _ _ _ _ _ _⟩
  | true =>
    have hseek := tseek_c (m := 1) (c := c) (HT.out.below hBm) HOK.out hn (HK.out.below hBm) hb (Nat.le_refl 1)
    rw [show ((1 : Nat) : Int) = 1 from rfl] at hseek
    go_wp2_with fail
    refine hseek.mono ?_
    rintro e w2 ⟨v, xs, rfl, hown, hx, hent, hb2⟩
    have hB2 := hBm.trans (hb2.mono hBm.size)
    have hR2 := (hb2.block _ (blk_lt hRm)).trans hRm
    have hzl : (seekF kas k 1).length ≤ 1 := by unfold seekF; rw [List.length_take]; omega
    obtain ⟨Z, hZ⟩ : ∃ Z, Z = seekF kas k 1 := ⟨_, rfl⟩
    rw [← hZ] at hkB hx hzl
    have HZ := Aside0.mk hZ
    clear hZ
    obtain ⟨A2, c2, rfl, hrow⟩ := row_slice hown
    have hl1 : xs.length ≤ 1 := by have := congrArg List.length hx; simp at this; omega
    have HOWN := Aside0.mk hown
    have HENT := Aside0.mk hent
    have HX := Aside0.mk hx
    have hs2 := hB2.size
    clear hseek hown hent hx hrow hB1 hR1 hb2 hBm hRm hbm
    generalize hg0 : w.heap.size = g0 at *
    have HG := Aside0.mk hg0
    clear hg0
    generalize wm.heap.size = n₀ at *
    go_wp2_with fail
    go_loopw [17] (fun i wr => ∃ j : Nat, j ≤ xs.length ∧ i = .int .i64 j ∧ (j = 0 ∨ headK Z k = (noA, false)) ∧ Below w2.heap.size w2 wr) (fun i _ => xs.length - (intOf i).toNat)
    case atStart => exact ⟨0, by omega, rfl, .inl rfl, Below.refl _ _⟩
    case round =>
      obtain ⟨j, hj, rfl, hjj, hBr⟩ := hrel
      have hBB := hB2.trans (hBr.mono hs2)
      have hRr := (hBr.block _ (blk_lt hR2)).trans hR2
      by_cases hlt : j < xs.length
      · have t1 : decide (j < xs.length) = true := decide_eq_true hlt
        obtain ⟨b, rfl, hbl, x0, x1, x2, x3, x4, x5, x6⟩ := row_at (own_below HOWN.out hBr) hlt
        obtain rfl : j = 0 := by omega
        obtain ⟨s, S', rfl⟩ : ∃ s S', Z = s :: S' := by
          cases Z with
          | nil =>
            have h1 := congrArg List.length HX.out
            simp at h1
            rw [h1] at hlt
            simp at hlt
          | cons s S' => exact ⟨s, S', rfl⟩
        have hxe := HX.out
        obtain ⟨x, hxs⟩ : ∃ x, xs = [x] := by
          cases xs with
          | nil => simp at hlt
          | cons x r => exact ⟨x, by cases r with | nil => rfl | cons y r => simp at hl1⟩
        have hx0 : xs[0] = x := by simp [hxs]
        rw [hxs] at hxe
        simp only [List.map_cons, List.map_nil, List.cons.injEq] at hxe
        have hxk : x.k = s.1 := by rw [← hxe.1]; rfl
        have hxa : x.a = s.2 := by rw [← hxe.1]; rfl
        obtain ⟨hxo, hxc, hxq⟩ := HENT.out x (by simp [hxs])
        clear hxq
        have hxr := own_read (own_below hxo hBr)
        rw [hx0] at x0 x1 x2 x3 x4 x5 x6
        have hn1 : 1 ≤ xs.length := by omega
        clear hxs hx0
        obtain ⟨xA, xc, xk, xa⟩ := x
        simp only at hxk hxa hxr hxc x0 x1 x2 x3 x4 x5 x6
        obtain ⟨ac, ao, ah, al, an, ax⟩ := xa
        simp only at x1 x2 x3 x4 x5 x6
        have hxb : Byt xk := by rw [hxk]; exact hkB s (by simp)
        have HXK := Aside0.mk hxk
        have HXA := Aside0.mk hxa
        clear hxk hxa hxe
        have hBn := (Below.refl wr.heap.size wr).alloc (Nat.le_refl _) (.cells #[.slice xA xk.length xc, .int .u64 ac, .bool ao, .int .i64 ah, .int .u64 al, .int .i64 an, .int .i64 ax] 36)
        have heq := equal_c (c := xc) (d := c) (hxr.below hBn) ((HK.out.below (hBB.mono (Nat.le_of_eq HG.out))).below hBn) hxc hkc hxb hb (r := decide (xk = k)) rfl
        have hN : (wr.alloc (.cells #[.slice xA xk.length xc, .int .u64 ac, .bool ao, .int .i64 ah, .int .u64 al, .int .i64 an, .int .i64 ax] 36)).heap[wr.heap.size]? = some (.cells #[.slice xA xk.length xc, .int .u64 ac, .bool ao, .int .i64 ah, .int .u64 al, .int .i64 an, .int .i64 ax] 36 (0, 0)) := al_new rfl
        clear hxr hxo HENT HX
        go_wp2_with fail
        refine heq.mono ?_
        rintro e w3 ⟨rfl, nd, rfl⟩
        have hN3 : ((wr.alloc (.cells #[.slice xA xk.length xc, .int .u64 ac, .bool ao, .int .i64 ah, .int .u64 al, .int .i64 an, .int .i64 ax] 36)).drewN nd).heap[wr.heap.size]? = some (.cells #[.slice xA xk.length xc, .int .u64 ac, .bool ao, .int .i64 ah, .int .u64 al, .int .i64 an, .int .i64 ax] 36 (0, 0)) := hN
        have hR3 : ((wr.alloc (.cells #[.slice xA xk.length xc, .int .u64 ac, .bool ao, .int .i64 ah, .int .u64 al, .int .i64 an, .int .i64 ax] 36)).drewN nd).heap[g0]? = some (.cells #[.int .u64 0, .bool false, .int .i64 0, .int .u64 0, .int .i64 0, .int .i64 0] 34 (0, 0)) := al_old hRr _
        have hB3 := pw_below_drewN hBn nd
        clear hN hBn heq x0 x1 x2 x3 x4 x5 x6
        generalize (wr.alloc (.cells #[.slice xA xk.length xc, .int .u64 ac, .bool ao, .int .i64 ah, .int .u64 al, .int .i64 an, .int .i64 ax] 36)).drewN nd = w3 at *
        have hg9 := hBB.size
        have hg92 := hBr.size
        have hg9' : g0 ≤ wr.heap.size := Nat.le_trans hs2 hg92
        clear hg9
        have hg9 := hg9'
        clear hg9'
        generalize wr.heap.size = g9 at *
        have f0 := blk_frozen hR3 0
        have f1 := blk_frozen hR3 1
        have f2 := blk_frozen hR3 2
        have f3 := blk_frozen hR3 3
        have f4 := blk_frozen hR3 4
        have f5 := blk_frozen hR3 5
        have y0 : w3.cell? ⟨g0, 0, none⟩ = some (.int .u64 0) := (blk_cell hR3 0).trans rfl
        have y1 : w3.cell? ⟨g0, 1, none⟩ = some (.bool false) := (blk_cell hR3 1).trans rfl
        have y2 : w3.cell? ⟨g0, 2, none⟩ = some (.int .i64 0) := (blk_cell hR3 2).trans rfl
        have y3 : w3.cell? ⟨g0, 3, none⟩ = some (.int .u64 0) := (blk_cell hR3 3).trans rfl
        have y4 : w3.cell? ⟨g0, 4, none⟩ = some (.int .i64 0) := (blk_cell hR3 4).trans rfl
        have y5 : w3.cell? ⟨g0, 5, none⟩ = some (.int .i64 0) := (blk_cell hR3 5).trans rfl
        have z1 : w3.cell? ⟨g9, 1, none⟩ = some (.int .u64 ac) := (blk_cell hN3 1).trans rfl
        have z2 : w3.cell? ⟨g9, 2, none⟩ = some (.bool ao) := (blk_cell hN3 2).trans rfl
        have z3 : w3.cell? ⟨g9, 3, none⟩ = some (.int .i64 ah) := (blk_cell hN3 3).trans rfl
        have z4 : w3.cell? ⟨g9, 4, none⟩ = some (.int .u64 al) := (blk_cell hN3 4).trans rfl
        have z5 : w3.cell? ⟨g9, 5, none⟩ = some (.int .i64 an) := (blk_cell hN3 5).trans rfl
        have z6 : w3.cell? ⟨g9, 6, none⟩ = some (.int .i64 ax) := (blk_cell hN3 6).trans rfl
        by_cases hm : xk = k
        · have hd : decide (xk = k) = true := decide_eq_true hm
          have HM := Aside0.mk hm
          clear hm
          rw [hd]
          go_wp2
          refine bodyPost_ret (results_ct rfl _ _ g0 34 #[.int .u64 ac, .bool ao, .int .i64 ah, .int .u64 al, .int .i64 an, .int .i64 ax] (0, 0) _ rfl (blk_six hR3 _ _ _ _ _ _) Try.underlying34 rfl (by kernel_rfl)) rfl ?_
          have hh : headK (s :: S') k = (⟨ac, ao, ah, al, an, ax⟩, true) := by
            show (if s.1 = k then (s.2, true) else (noA, false)) = _
            rw [if_pos (HXK.out.symm.trans HM.out), ← HXA.out]
          rw [← HZ.out, hh, HG.out]
          exact ⟨rfl, below_six (hBB.trans (hB3.mono hg9)) (Nat.le_refl _) _ _ _ _ _ _⟩
        · have hd : decide (xk = k) = false := decide_eq_false hm
          rw [hd]
          have hh : headK (s :: S') k = (noA, false) := by
            show (if s.1 = k then (s.2, true) else (noA, false)) = _
            rw [if_neg (fun e => hm (HXK.out.trans e))]
          have HH := Aside0.mk hh
          clear hh hm
          go_wp2_with fail
          go_roundw
          case rel => exact ⟨1, by omega, by go_num, .inr HH.out, hBr.trans (hB3.mono hg92)⟩
          case measure => simp [intOf]; omega
      · have t1 : decide (j < xs.length) = false := decide_eq_false hlt
        have hg : headK Z k = (noA, false) := by
          rcases hjj with rfl | h
          · have h0 : xs = [] := List.eq_nil_of_length_eq_zero (by omega)
            have h1 := HX.out
            rw [h0] at h1
            cases Z with
            | nil => rfl
            | cons s S => simp at h1
          · exact h
        have HGG := Aside0.mk hg
        clear hg hjj
        have f0 := blk_frozen hRr 0
        have f1 := blk_frozen hRr 1
        have f2 := blk_frozen hRr 2
        have f3 := blk_frozen hRr 3
        have f4 := blk_frozen hRr 4
        have f5 := blk_frozen hRr 5
        have y0 : wr.cell? ⟨g0, 0, none⟩ = some (.int .u64 0) := (blk_cell hRr 0).trans rfl
        have y1 : wr.cell? ⟨g0, 1, none⟩ = some (.bool false) := (blk_cell hRr 1).trans rfl
        have y2 : wr.cell? ⟨g0, 2, none⟩ = some (.int .i64 0) := (blk_cell hRr 2).trans rfl
        have y3 : wr.cell? ⟨g0, 3, none⟩ = some (.int .u64 0) := (blk_cell hRr 3).trans rfl
        have y4 : wr.cell? ⟨g0, 4, none⟩ = some (.int .i64 0) := (blk_cell hRr 4).trans rfl
        have y5 : wr.cell? ⟨g0, 5, none⟩ = some (.int .i64 0) := (blk_cell hRr 5).trans rfl
        go_wp2
        refine bodyPost_ret (results_ct rfl _ _ g0 34 #[.int .u64 0, .bool false, .int .i64 0, .int .u64 0, .int .i64 0, .int .i64 0] (0, 0) _ rfl (blk_six hRr _ _ _ _ _ _) Try.underlying34 rfl (by kernel_rfl)) rfl ?_
        rw [← HZ.out, HGG.out, HG.out]
        exact ⟨rfl, below_six hBB (Nat.le_refl _) _ _ _ _ _ _⟩
set_option maxHeartbeats 2000000 in
set_option maxRecDepth 100000 in
theorem same_c {w : World} {R1 R2 : Option Addr} {b1 b2 c d : Nat} {xs ys : List Ent} (hR1 : xs ≠ [] → R1 = some ⟨b1, 0, none⟩) (hR2 : ys ≠ [] → R2 = some ⟨b2, 0, none⟩) (h1 : ERow w b1 0 xs) (h2 : ERow w b2 0 ys) (hka : xs.map Ent.ka = ys.map Ent.ka) (hn : xs.length ≤ 4096) (hby : ∀ x ∈ xs, Byt x.k ∧ x.k.length ≤ 256) :
    Calls Try.prog 17 #[.slice R1 xs.length c, .slice R2 ys.length d] w fun e w' => e = .returned (.bool true) ∧ Below w.heap.size w w' := by
  have hl : ys.length = xs.length := by have := congrArg List.length hka; simpa using this.symm
  rw [hl]
  have H1 := Aside0.mk h1
  have H2 := Aside0.mk h2
  have HKA := Aside0.mk hka
  have HL := Aside0.mk hl
  have HR1 := Aside0.mk hR1
  have HR2 := Aside0.mk hR2
  have HBY := Aside0.mk hby
  clear h1 h2 hka hl hR1 hR2 hby
  go_enter Try.func17, Try.ntmps17
  go_wp2_with fail
  go_loopw [5] (fun iv wr => ∃ j : Nat, j ≤ xs.length ∧ iv = .int .i64 j ∧ Below w.heap.size w wr) (fun iv _ => xs.length - (intOf iv).toNat)
  case atStart => exact ⟨0, by omega, rfl, Below.refl _ _⟩
  case round =>
    obtain ⟨j, hj, rfl, hB⟩ := hrel
    by_cases hlt : j < xs.length
    · have t1 : decide (j < xs.length) = true := decide_eq_true hlt
      have hlt2 : j < ys.length := by rw [HL.out]; exact hlt
      have g0 : (0 : Int) ≤ (j : Int) := by omega
      have g1 : (j : Int) < (xs.length : Int) := by omega
      have g2 : j < xs.length := hlt
      obtain rfl := HR1.out (by intro e; rw [e] at hlt; simp at hlt)
      obtain rfl := HR2.out (by intro e; rw [e] at hlt2; simp at hlt2)
      have hE1 := H1.out.below hB
      have hE2 := H2.out.below hB
      obtain ⟨x0, x1, x2, x3, x4, x5, x6⟩ := hE1.cells hlt
      obtain ⟨y0, y1, y2, y3, y4, y5, y6⟩ := hE2.cells hlt2
      simp only [Nat.zero_add] at x0 x1 x2 x3 x4 x5 x6 y0 y1 y2 y3 y4 y5 y6
      have hr1 := hE1.rd _ (List.getElem_mem hlt)
      have hr2 := hE2.rd _ (List.getElem_mem hlt2)
      have hbk := HBY.out _ (List.getElem_mem hlt)
      have hej : xs[j].ka = ys[j].ka := by
        have e1 : (xs.map Ent.ka)[j]? = (ys.map Ent.ka)[j]? := by rw [HKA.out]
        rw [List.getElem?_map, List.getElem?_map, List.getElem?_eq_getElem hlt, List.getElem?_eq_getElem hlt2] at e1
        simpa using e1
      generalize xs[j] = x at *
      generalize ys[j] = y at *
      obtain ⟨xA, xc, xk, xa⟩ := x
      obtain ⟨yA, yc, yk, ya⟩ := y
      simp only [Ent.ka, Prod.mk.injEq] at hej
      obtain ⟨rfl, rfl⟩ := hej
      obtain ⟨ac, ao, ah, al, an, ax⟩ := xa
      simp only at x0 x1 x2 x3 x4 x5 x6 y0 y1 y2 y3 y4 y5 y6 hbk
      obtain ⟨hrk1, hrc1, _⟩ := hr1
      obtain ⟨hrk2, hrc2, _⟩ := hr2
      simp only at hrk1 hrc1 hrk2 hrc2
      clear hE1 hE2 hlt hlt2
      have hcv3 := Kd.C_string (P := Try.prog) (A := xA) (c := xc) Try.underlying23 Try.underlying5 Try.underlying9 (hrk1.below (below_drew (Below.refl _ _)))
      have hcv4 := Kd.C_string (P := Try.prog) (A := yA) (c := yc) Try.underlying23 Try.underlying5 Try.underlying9 (hrk2.below (below_drew (Below.refl _ _)))
      go_wp2_with fail
      go_region_held3 (fun w' => w'.cell? ⟨b1, j * 7, none⟩ = some (.slice xA xk.length xc) ∧ w'.cell? ⟨b1, j * 7 + 1, none⟩ = some (.int .u64 ac) ∧ w'.cell? ⟨b1, j * 7 + 2, none⟩ = some (.bool ao) ∧ w'.cell? ⟨b1, j * 7 + 3, none⟩ = some (.int .i64 ah) ∧ w'.cell? ⟨b1, j * 7 + 4, none⟩ = some (.int .u64 al) ∧ w'.cell? ⟨b1, j * 7 + 5, none⟩ = some (.int .i64 an) ∧ w'.cell? ⟨b1, j * 7 + 6, none⟩ = some (.int .i64 ax) ∧ w'.cell? ⟨b2, j * 7, none⟩ = some (.slice yA xk.length yc) ∧ w'.cell? ⟨b2, j * 7 + 1, none⟩ = some (.int .u64 ac) ∧ w'.cell? ⟨b2, j * 7 + 2, none⟩ = some (.bool ao) ∧ w'.cell? ⟨b2, j * 7 + 3, none⟩ = some (.int .i64 ah) ∧ w'.cell? ⟨b2, j * 7 + 4, none⟩ = some (.int .u64 al) ∧ w'.cell? ⟨b2, j * 7 + 5, none⟩ = some (.int .i64 an) ∧ w'.cell? ⟨b2, j * 7 + 6, none⟩ = some (.int .i64 ax) ∧ (convert 23 9 (.slice xA xk.length xc)).run Try.prog w' = .ok (.string (strOfNums xk)) w' ∧ (convert 23 9 (.slice yA xk.length yc)).run Try.prog w' = .ok (.string (strOfNums xk)) w') (go_keep) (fail)
      go_wp2_with fail
      exact ⟨⟨j + 1, by omega, by go_num, bdrew hB⟩, by simp [intOf]; omega⟩
    · obtain rfl : j = xs.length := by omega
      have t1 : decide (xs.length < xs.length) = false := decide_eq_false hlt
      go_wp2_with fail
      go_ret
      exact ⟨rfl, hB⟩
theorem table0_len : (tableF []).length = 42 := by
  rw [tableF, framesF]
  decide +kernel
theorem eok_nil : EOk [] := ⟨fun x hx => (List.not_mem_nil hx).elim, fun x hx => (List.not_mem_nil hx).elim, List.Pairwise.nil, Nat.zero_le _⟩
set_option maxRecDepth 100000 in
theorem alive_c (w : World) : Calls Try.prog 6 #[] w fun e w' => e = .returned (.bool true) ∧ Below w.heap.size w w' := by
  have hw := twrite_c (w := w) (R := none) (c := 0) (b := 0) (es := []) (kas := []) (fun h => absurd rfl h) ⟨fun j hj => by simp at hj, fun x hx => by cases hx⟩ (by simp) rfl eok_nil (by simp)
  have HW := Aside0.mk hw
  clear hw
  go_enter Try.func6, Try.ntmps6
  go_wp2_with (first
    | (go_at_call 9
       refine HW.out.mono ?_
       rintro e w2 ⟨v, rfl, ho, hb2⟩
       obtain ⟨a, c, rfl, hr, hc⟩ := own_b ho (by rw [table0_len]; omega)
       have hty := own_typed ho a.block rfl
       have hop := topen_c hr hty hc eok_nil (by simp)
       rw [table0_len] at hop
       rw [table0_len]
       have HO := Aside0.mk hop
       clear hop hty hr ho)
    | (go_at_call 11
       refine HO.out.mono ?_
       rintro e w3 ⟨T, rfl, hT, hb3⟩)
    | (go_at_call 4
       have hsn := skip_new w3
       unfold ptr at hsn
       refine hsn.mono ?_
       rintro e w4 ⟨rfl, hs4, hb4⟩)
    | fail)
  go_ret
  exact ⟨rfl, (hb2.trans (hb3.mono hb2.size)).trans (hb4.mono (Nat.le_trans hb2.size hb3.size))⟩
theorem blo_keep : ∀ (ks : List (List Int)) (b : List Int) (k : List Int), Byt b → mayF b k 6 = true → mayF (bloF b ks) k 6 = true
  | [], b, k, _, h => h
  | y :: ks, b, k, hb, h => blo_keep ks (addF b y 6) k (bloF_byt [y] b hb) (mayF_mono hb k y 6 h)
theorem blo_has : ∀ (ks : List (List Int)) (b : List Int) (k : List Int), Byt b → 1 ≤ b.length → k ∈ ks → mayF (bloF b ks) k 6 = true
  | [], b, k, _, _, h => (List.not_mem_nil h).elim
  | y :: ks, b, k, hb, hl, h => by
    rcases List.mem_cons.1 h with rfl | h
    · exact blo_keep ks (addF b k 6) k (bloF_byt [k] b hb) (mayF_add hb hl k 6)
    · exact blo_has ks (addF b y 6) k (bloF_byt [y] b hb) (by rw [addF_len]; exact hl) h
/-- The filter denies no key that is there. -/
theorem flt_has {kas : Kas} {k : List Int} (h : k ∈ kas.map Prod.fst) : mayF (fltF kas) k 6 = true := by
  unfold fltF
  refine blo_has _ _ _ (fun x hx => ?_) ?_ h
  · rw [List.mem_replicate] at hx
    rw [hx.2]
    omega
  · rw [List.length_replicate]
    unfold dgF
    omega
theorem headK_in {Z : Kas} {k : List Int} (h : (headK Z k).2 = true) : k ∈ Z.map Prod.fst := by
  cases Z with
  | nil => cases h
  | cons x Z =>
    rw [headK] at h
    by_cases e : x.1 = k
    · subst e
      simp
    · rw [if_neg e] at h
      cases h
theorem headK_not {Z : Kas} {k : List Int} (h : (headK Z k).2 = false) : headK Z k = (noA, false) := by
  cases Z with
  | nil => rfl
  | cons x Z =>
    rw [headK] at h ⊢
    by_cases e : x.1 = k
    · rw [if_pos e] at h
      cases h
    · rw [if_neg e]
/-- The table's Get tells what its entries hold. -/
theorem tget_eq (kas : Kas) (k : List Int) : tgetF kas k = headK (seekF kas k 1) k := by
  unfold tgetF
  by_cases h : mayF (fltF kas) k 6 = true
  · rw [if_pos h]
  · rw [if_neg h]
    cases hh : (headK (seekF kas k 1) k).2 with
    | false => exact (headK_not hh).symm
    | true =>
      have h1 := headK_in hh
      obtain ⟨x, hx, rfl⟩ := List.mem_map.1 h1
      exact absurd (flt_has (List.mem_map.2 ⟨x, (List.mem_filter.1 (List.mem_of_mem_take hx)).1, rfl⟩)) h
/-- What is there, the filter does not deny. -/
theorem tget_may {kas : Kas} {k : List Int} (h : (tgetF kas k).2 = true) : mayF (fltF kas) k 6 = true := by
  unfold tgetF at h
  by_cases h' : mayF (fltF kas) k 6 = true
  · exact h'
  · rw [if_neg h'] at h
    cases h
/-- A list parts into what is below a key and what is not. -/
theorem seek_part {P S : List Nd} {k : List Int} (m : Nat) (hP : ∀ n ∈ P, lts n.k k = true) (hS : ∀ n ∈ S, lts n.k k = false) : seekF (cont (P ++ S)) k m = (cont S).take m := by
  unfold seekF cont
  rw [List.map_append, List.filter_append, List.filter_eq_nil_iff.2 (fun x hx => by obtain ⟨n, hn, rfl⟩ := List.mem_map.1 hx; simp [hP n hn]), List.filter_eq_self.2 (fun x hx => by obtain ⟨n, hn, rfl⟩ := List.mem_map.1 hx; simp [hS n hn]), List.nil_append]
theorem headG_eq (S : List Nd) (k : List Int) : headG S k = headK ((cont S).take 1) k := by
  cases S with
  | nil => rfl
  | cons s S => rfl
theorem great_l {l : List Lib.S36} (hl : (l.length : Int) ≤ 9223372036854775807) : ∀ (n j : Nat), j ≤ l.length → l.length - j ≤ n → ∃ r, Lib.rickyardlaw10_Great.l0 (n + 1) l (j : Int) = some r ∧ (r = false → ∀ i, j ≤ i → (h : i < l.length) → l[i].f0.length ≤ 1000)
  | 0, j, hj, hn => ⟨false, by unfold Lib.rickyardlaw10_Great.l0; rw [if_neg (by omega)], fun _ i h1 h2 => by omega⟩
  | n + 1, j, hj, hn => by
    unfold Lib.rickyardlaw10_Great.l0
    by_cases h : (j : Int) < (l.length : Int)
    · rw [if_pos h, if_pos (by omega)]
      have e : Lib.rd_T36 l (j : Int) = l[j]'(by omega) := by
        unfold Lib.rd_T36
        have hj' : j < l.length := by omega
        simp [List.getD, hj']
      by_cases h2 : (((Lib.rd_T36 l (j : Int)).f0).length : Int) > 1000
      · exact ⟨true, by rw [if_pos h2], fun h => by cases h⟩
      · rw [if_neg h2, show wrap64 ((j : Int) + 1) = ((j + 1 : Nat) : Int) by unfold wrap64; omega]
        obtain ⟨r, h3, h4⟩ := great_l hl n (j + 1) (by omega) (by omega)
        refine ⟨r, h3, fun hr i h5 h6 => ?_⟩
        by_cases hij : i = j
        · subst hij
          rw [e] at h2
          omega
        · exact h4 hr i (by omega) h6
    · exact ⟨false, by rw [if_neg h], fun _ i h1 h2 => by omega⟩
theorem great_f {l : List Lib.S36} (hl : (l.length : Int) ≤ 9223372036854775807) : ∃ r, Lib.rickyardlaw10_Great.f (l.length + 2) l = some r ∧ (r = false → ∀ i, (h : i < l.length) → l[i].f0.length ≤ 1000) := by
  have hj : ∀ b, ∃ r, Lib.rickyardlaw10_Great.j0 (l.length + 2) l b = some r ∧ (r = false → ∀ i, (h : i < l.length) → l[i].f0.length ≤ 1000) := fun b => by
    rw [Lib.rickyardlaw10_Great.j0]
    cases b with
    | true => exact ⟨true, rfl, fun h => by cases h⟩
    | false =>
      obtain ⟨r, hr, hk⟩ := great_l hl l.length 0 (by omega) (by omega)
      exact ⟨r, hr, fun h i hi => hk h i (Nat.zero_le _) hi⟩
  unfold Lib.rickyardlaw10_Great.f
  by_cases h1 : (l.length : Int) > 80
  · rw [if_pos h1]
    by_cases h2 : (l.length : Int) ≤ 4096
    · rw [if_pos h2]
      exact hj _
    · rw [if_neg h2]
      exact hj _
  · rw [if_neg h1]
    exact hj _
abbrev RdE (w : World) (A : Option Addr) (l : List Lib.S36) : Prop := Kd.C Lib.k36 w A l.length l
theorem great_c {l : List Lib.S36} (hl : (l.length : Int) ≤ 9223372036854775807) : ∃ r, (∀ (A : Option Addr) (c : Nat) (w : World), RdE w A l → l.length ≤ c → Calls Try.prog 5 #[.slice A l.length c] w fun e w' => e = .returned (.bool r) ∧ Below w.heap.size w w') ∧ (r = false → ∀ i, (h : i < l.length) → l[i].f0.length ≤ 1000) := by
  obtain ⟨r, hr, hk⟩ := great_f (l := l) hl
  exact ⟨r, fun A c w hA hc => (Lib.rickyardlaw10_Great.calls _ A c l r w hA hc hr).mono fun e w' ⟨he, hd⟩ => ⟨he, hd.below⟩, hk⟩
def agOf (x : Lib.S34) : Ag := ⟨x.f0, x.f1, x.f2.f0, x.f2.f1, x.f3, x.f4⟩
theorem entry_at {w wr : World} {A : Option Addr} {l : List Lib.S36} (hA : RdE w A l) (hB : Below w.heap.size w wr) {j : Nat} (hj : j < l.length) :
    ∃ (ad : Addr) (A0 : Option Addr) (c0 : Nat), A = some ad ∧ wr.cell? (ad.add (j * 7)) = some (.slice A0 l[j].f0.length c0) ∧ wr.cell? ⟨(ad.add (j * 7)).block, (ad.add (j * 7)).off + 1, none⟩ = some (.int .u64 (agOf l[j].f1).c) ∧
      wr.cell? ⟨(ad.add (j * 7)).block, (ad.add (j * 7)).off + 2, none⟩ = some (.bool (agOf l[j].f1).o) ∧ wr.cell? ⟨(ad.add (j * 7)).block, (ad.add (j * 7)).off + 3, none⟩ = some (.int .i64 (agOf l[j].f1).hi) ∧
      wr.cell? ⟨(ad.add (j * 7)).block, (ad.add (j * 7)).off + 4, none⟩ = some (.int .u64 (agOf l[j].f1).lo) ∧ wr.cell? ⟨(ad.add (j * 7)).block, (ad.add (j * 7)).off + 5, none⟩ = some (.int .i64 (agOf l[j].f1).mn) ∧
      wr.cell? ⟨(ad.add (j * 7)).block, (ad.add (j * 7)).off + 6, none⟩ = some (.int .i64 (agOf l[j].f1).mx) ∧ l[j].f0.length ≤ c0 ∧ RdB wr A0 l[j].f0 := by
  obtain ⟨ad, A0, c0, h0, h1, h2, h3, h4, h5, h6, h7, h8, h9⟩ := Lib.at_T36 (Kd.C_below hA hB) (j : Int) (by omega) (by omega)
  have e : Lib.rd_T36 l (j : Int) = l[j] := by
    unfold Lib.rd_T36
    simp [List.getD, hj]
  rw [e] at h1 h2 h3 h4 h5 h6 h7 h8 h9
  rw [Int.toNat_natCast] at h1 h2 h3 h4 h5 h6 h7
  exact ⟨ad, A0, c0, h0, h1, h2, h3, h4, h5, h6, h7, h8, h9⟩
theorem row_er {W : World} {base : Nat} {v : Value} {xs : List Ent} (h : W.ownsRow base 36 7 v xs.length (xs.flatMap Ent.cells)) (hx : ∀ x ∈ xs, x.rd W) : ∃ R c b, v = .slice R xs.length c ∧ (xs ≠ [] → R = some ⟨b, 0, none⟩) ∧ ERow W b 0 xs ∧ xs.length ≤ c := by
  by_cases h0 : xs = []
  · subst h0
    obtain ⟨R, c, rfl, _⟩ := row_slice h
    exact ⟨R, c, 0, rfl, fun h => absurd rfl h, ⟨fun j hj => by simp at hj, hx⟩, Nat.zero_le _⟩
  · have hp := List.length_pos_iff.2 h0
    rcases h.2 with ⟨rfl, hn⟩ | ⟨g, cap, cur, rfl, hb, hg, hcap, _⟩
    · omega
    refine ⟨_, cap, g, rfl, fun _ => rfl, ?_, hcap⟩
    have hl := h.1
    refine ⟨fun j hj m u hu => ?_, hx⟩
    have hm : m < 7 := by
      have := (List.getElem?_eq_some_iff.1 hu).1
      simpa [Ent.cells] using this
    obtain ⟨A, c', e, hc⟩ := row_slice h
    cases e
    obtain ⟨g', e1, _, e2⟩ := hc (j * 7 + m) (by omega)
    rw [flat_get xs j m hj hm, hu] at e2
    simp only [Option.some.injEq, Addr.mk.injEq] at e1
    rw [← e1.1] at e2
    rw [show 0 + j * 7 + m = j * 7 + m by omega]
    exact e2
theorem ent_rd {W : World} {n : Nat} {x : Ent} (h : EntOk n W x) (hc : x.k.length ≤ x.c) (h0 : 0 < x.k.length) : x.rd W := ⟨own_read h, hc, (own_read h).some h0⟩
theorem eok_cont {fz : Bool} {W : World} {base L : Nat} {ns : List Nd} (h : SkAt fz W base L ns) (hg : ∀ n ∈ ns, Gd n.a) (hn : ns.length ≤ 80) : EOk (cont ns) := by
  refine ⟨fun x hx => ?_, fun x hx => ?_, ?_, by simp [cont]; omega⟩
  · obtain ⟨n, hn', rfl⟩ := List.mem_map.1 hx
    exact h.ky n hn'
  · obtain ⟨n, hn', rfl⟩ := List.mem_map.1 hx
    exact hg n hn'
  · unfold cont
    rw [List.map_map, List.pairwise_map]
    exact h.srt
theorem table_pos (kas : Kas) : 1 ≤ (tableF kas).length := by
  unfold tableF framesF
  rw [allF_app, allF_cons]
  simp only [List.length_append, frameF_len]
  omega
theorem tower (z : Int) : ∃ h : Nat, 1 ≤ h ∧ h ≤ 8 ∧ wrap64 (1 + wrap64 (bits .and .u8 z 7)) = (h : Int) := by
  have e : bits .and .u8 z 7 = (((BitVec.ofInt 8 z) &&& (BitVec.ofInt 8 7)).toNat : Int) := by
    show IntKind.u8.wrap ((((BitVec.ofInt 8 z) &&& (BitVec.ofInt 8 7)).toNat : Nat) : Int) = _
    have := ((BitVec.ofInt 8 z) &&& (BitVec.ofInt 8 7)).isLt
    rw [IntWalk.u8_in _ (by omega)]
  have h7 : ((BitVec.ofInt 8 z) &&& (BitVec.ofInt 8 7)).toNat ≤ 7 := by
    rw [BitVec.toNat_and]
    exact Nat.and_le_right
  rw [e]
  generalize ((BitVec.ofInt 8 z) &&& (BitVec.ofInt 8 7)).toNat = n at h7
  exact ⟨n + 1, by omega, by omega, by unfold wrap64; omega⟩
end Go.Proofs.Ythabkdbhjioalaa.Top
