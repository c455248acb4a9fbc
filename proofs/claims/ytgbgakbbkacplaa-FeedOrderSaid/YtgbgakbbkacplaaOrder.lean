/-
  The law FeedOrder, walked over a slice of calls; conditions: those that the theorem states.
-/
import Derived.Test.YtgbgakbbkacplaaFour
import Derived.Deep.RegionLaw
import Derived.BigQuiet
namespace Go.Proofs.Ytgbgakbbkacplaa.Feed
set_option linter.unusedSimpArgs false
set_option linter.unusedVariables false
open Go.Conc Go.RowKit Go.Proofs.YtgbgakbbkacplaaW.PrintWords
theorem info3 : (Try.prog.info? 3).map (fun i => (i.zero, i.size, i.bytes)) = some (some (.int .i64 0), 1, 8) := by kernel_rfl
theorem step_push {w0 W : World} {ops : Array Oper} {o : Oper} {a : Act} {Q : Exit → Act → World → Prop} {K : Act → World → Prop} {base : Nat} (hw : Region.wanted o (yielded ops a.tmps) = true)
    (ho : o.op = .call { callee := .builtin .append, args := #[.tmp 58, .tmp 61], argTypes := #[28, 28] }) (v : Value) (p : List Int) (x : Int) (hs : a.eval (.tmp 58) = v) (hx : a.eval (.tmp 61) = .slice (some ⟨W.heap.size, 0, none⟩) 1 1)
    (HO : W.ownsRow base 3 1 v p.length (nums .i64 p)) (HB : Below base w0 W) (hbase : base ≤ W.heap.size) (hl : p.length ≤ 1000)
    (h : ∀ v1 w1, w1.ownsRow base 3 1 v1 (p ++ [x]).length (nums .i64 (p ++ [x])) → Below base w0 w1 → W.grownBy w1 v.ownBlock → (v1.ownBlock = v.ownBlock ∨ ∃ b, v1.ownBlock = some b ∧ W.heap.size ≤ b) → K (a.put o.dst v1) w1) :
    if Region.wanted o (yielded ops a.tmps) = true then Oper.wp Try.prog o a (W.alloc (.cells #[.int .i64 x] 3)) K Q else K (a.put o.dst undef) (W.alloc (.cells #[.int .i64 x] 3)) :=
  step_append_cells base hw (.tmp 58) (.tmp 61) 28 3 (.int .i64 0) 1 8 ho Try.underlying28 info3 rfl (by decide) (by decide) v p.length (nums .i64 p) [.int .i64 x] hs hx rfl (by simp [Value.oneCell']) HO HB hbase (by omega)
    fun v1 w1 h1 h2 h3 h4 => h v1 w1 (by simpa [nums] using h1) h2 h3 h4
section
variable {w w3 : World} {base gi go : Nat} {a0 a1 d0 d1 : Value} {p0 p1 q0 q1 : List Int}
/-- A block that is neither a row of numbers nor a block of rows stands behind a row's growth and the store. -/
theorem Four.other (h : Four w base gi go a0 a1 d0 d1 p0 p1 q0 q1) {v : Value} {l : List Int} (hv : w.ownsRow base 3 1 v l.length (nums .i64 l)) (hg : w.grownBy w3 v.ownBlock) {g : Nat} (hgg : g = gi ∨ g = go) (o : Nat) (u : Value) {k : Nat} {ob : Obj} (hk : w.heap[k]? = some ob)
    (h3 : ∀ cs, ob ≠ .cells cs 3 (0, 0)) (h29 : ∀ cs, ob ≠ .cells cs 29 (0, 0)) : (w3.setCell ⟨g, o, none⟩ u).heap[k]? = some ob := by
  have hkg : k ≠ g := by
    rintro rfl
    rcases hgg with rfl | rfl
    · rw [h.bi] at hk; exact h29 _ (Option.some.inj hk).symm
    · rw [h.bo] at hk; exact h29 _ (Option.some.inj hk).symm
  have hkv : some k ≠ v.ownBlock := by
    intro e
    obtain ⟨cs, hc⟩ := own_typed hv k e.symm
    rw [hc] at hk
    exact h3 _ (Option.some.inj hk).symm
  rw [Below.heap_setCell _ _ _ _ hkg, hg.block k (lt_of_heap hk) hkv]
  exact hk
theorem Four.fd (h : Four w base gi go a0 a1 d0 d1 p0 p1 q0 q1) {v : Value} {l : List Int} (hv : w.ownsRow base 3 1 v l.length (nums .i64 l)) (hg : w.grownBy w3 v.ownBlock) {g : Nat} (hgg : g = gi ∨ g = go) (o : Nat) (u : Value) {b b1 b2 room : Nat} {us os : List Int} {cl : Bool} (hF : Fd w b b1 b2 room us os cl) :
    Fd (w3.setCell ⟨g, o, none⟩ u) b b1 b2 room us os cl := by
  obtain ⟨su, ru, h1⟩ := hF.u
  obtain ⟨so, ro, h2⟩ := hF.o
  exact ⟨h.other hv hg hgg o u hF.blk (fun cs e => by simp at e) (fun cs e => by simp at e), ⟨su, ru, h.other hv hg hgg o u h1 (fun cs e => by simp at e) (fun cs e => by simp at e)⟩, ⟨so, ro, h.other hv hg hgg o u h2 (fun cs e => by simp at e) (fun cs e => by simp at e)⟩, hF.ne⟩
end
theorem own_form {w : World} {base e size n : Nat} {v : Value} {xs : List Value} (h : w.ownsRow base e size v n xs) : ∃ A m c, v = .slice A m c := by
  rcases h.2 with ⟨rfl, rfl⟩ | ⟨g, cap, cur, rfl, _⟩
  · exact ⟨_, _, _, rfl⟩
  · exact ⟨_, _, _, rfl⟩
theorem own_slice {w : World} {base e size n : Nat} {v : Value} {xs : List Value} (h : w.ownsRow base e size v n xs) : ∃ A c, v = .slice A n c := by
  rcases h.2 with ⟨rfl, rfl⟩ | ⟨g, cap, cur, rfl, _⟩
  · exact ⟨_, _, rfl⟩
  · exact ⟨_, _, rfl⟩
theorem own_cell {w : World} {base : Nat} {A : Option Addr} {c : Nat} {l : List Int} (h : w.ownsRow base 3 1 (.slice A l.length c) l.length (nums .i64 l)) (i : Nat) (hi : i < l.length) : ∃ g, A = some ⟨g, 0, none⟩ ∧ w.cell? ⟨g, i, none⟩ = some (.int .i64 l[i]) := by
  rcases h.2 with ⟨_, h0⟩ | ⟨g, cap, cur, hv, hg, hh, h1, h2, h3, h4⟩
  · omega
  · simp at hv
    obtain ⟨rfl, rfl⟩ := hv
    refine ⟨g, rfl, ?_⟩
    have e : cur.toList[i]? = some (.int .i64 l[i]) := by
      have : (cur.toList.take (l.length * 1))[i]? = (nums .i64 l)[i]? := by rw [h4]
      rw [List.getElem?_take_of_lt (by omega)] at this
      rw [this]
      simp [nums, List.getElem?_eq_getElem hi]
    simp only [World.cell?, hh]
    simpa using e
theorem size_al (w : World) (o : Obj) : (w.alloc o).heap.size = w.heap.size + 1 := by
  show (w.heap.push o).size = w.heap.size + 1
  simp
set_option maxHeartbeats 4000000 in
set_option maxRecDepth 100000 in
theorem order_walk (room : Int) (A : Option Addr) (l : List (Int × Int × Bool)) (cap : Nat) (w : World) (hlen : l.length ≤ maxLen) (hc : OpsAt w A l) :
    Calls Try.prog 3 #[.int .i64 room, .slice A l.length cap] w fun e w' => e = .returned (.bool true) ∧ Below w.heap.size w w' := by
  unfold maxLen at hlen
  by_cases hbad : room < 1 ∨ 64 < room
  · go_enter Try.func3, Try.ntmps3
    go_wp2_with fail
    refine (new_bad room hbad _).mono ?_
    rintro e w1 ⟨rfl, rfl⟩
    go_wp2_with fail
    refine (alive_true _).mono ?_
    rintro e w1 ⟨rfl, hB⟩
    go_wp2
    go_ret
    exact ⟨rfl, hB⟩
  · obtain ⟨n, rfl⟩ := Int.eq_ofNat_of_zero_le (by omega : 0 ≤ room)
    have hn1 : 1 ≤ n := by omega
    have hn2 : n ≤ 64 := by omega
    clear hbad
    have HC := Lib.hid hc
    clear hc
    go_enter Try.func3, Try.ntmps3
    go_wp2_with fail
    refine (new_good n hn1 hn2 _).mono ?_
    rintro e w1 ⟨b, c1, c2, rfl, hF, hb, hc1, hc2, hB⟩
    go_wp2_with fail
    have hsz := hB.size
    have hF0 := (hF.alloc (.cells #[.slice none 0 0, .slice none 0 0] 29)).alloc (.cells #[.slice none 0 0, .slice none 0 0] 29)
    have hB0 := (hB.alloc hB.size (.cells #[.slice none 0 0, .slice none 0 0] 29)).alloc (hB.alloc hB.size (.cells #[.slice none 0 0, .slice none 0 0] 29)).size (.cells #[.slice none 0 0, .slice none 0 0] 29)
    have hZ : Four ((w1.alloc (.cells #[.slice none 0 0, .slice none 0 0] 29)).alloc (.cells #[.slice none 0 0, .slice none 0 0] 29)) w.heap.size w1.heap.size (w1.heap.size + 1) (.slice none 0 0) (.slice none 0 0) (.slice none 0 0) (.slice none 0 0) [] [] [] [] := by
      have n0 : ∀ W : World, W.ownsRow w.heap.size 3 1 (.slice none 0 0) ([] : List Int).length (nums .i64 []) := fun W => ⟨rfl, .inl ⟨rfl, rfl⟩⟩
      have e0 : ∀ k, (Value.slice none 0 0).ownBlock = some k → (Value.slice none 0 0).ownBlock ≠ some k := fun k h => by simp [Value.ownBlock] at h
      refine ⟨?_, ?_, by omega, hsz, by omega, n0 _, n0 _, n0 _, n0 _, e0, e0, e0, e0, e0, e0⟩
      · rw [Below.heap_alloc _ _ _ (by rw [size_al]; omega), heap_alloc_new]
      · have := heap_alloc_new (w1.alloc (.cells #[.slice none 0 0, .slice none 0 0] 29)) (.cells #[.slice none 0 0, .slice none 0 0] 29)
        rw [size_al] at this
        exact this
    clear hF hB hsz
    generalize hgi : w1.heap.size = gi at *
    have hgo : (w1.alloc (.cells #[.slice none 0 0, .slice none 0 0] 29)).heap.size = gi + 1 := by rw [size_al, hgi]
    generalize (w1.alloc (.cells #[.slice none 0 0, .slice none 0 0] 29)).alloc (.cells #[.slice none 0 0, .slice none 0 0] 29) = wz at *
    generalize gi + 1 = go at *
    clear hgi hgo w1
    go_loopw [9] (fun i wr => ∃ (j : Nat) (us os : List Int) (a0 a1 d0 d1 : Value) (p0 p1 q0 q1 : List Int), j ≤ l.length ∧ j ≤ 300 ∧ i = .int .i64 j ∧ Fd wr b c1 c2 n us os false ∧ us.length ≤ n ∧ os.length ≤ n ∧ Four wr w.heap.size gi go a0 a1 d0 d1 p0 p1 q0 q1 ∧ p0 = q0 ++ os ∧ p1 = q1 ++ us ∧ p0.length ≤ j ∧ p1.length ≤ j ∧ Below w.heap.size w wr) (fun i _ => 300 - (intOf i).toNat)
    case atStart => exact ⟨0, [], [], _, _, _, _, [], [], [], [], by omega, by omega, rfl, hF0, by simp, by simp, hZ, rfl, rfl, by simp, by simp, hB0⟩
    case round =>
      clear hF0 hB0 hZ
      obtain ⟨j, us, os, a0, a1, d0, d1, p0, p1, q0, q1, hj1, hj2, rfl, hF, hu, ho, hZ, e0, e1, hl0, hl1, hB⟩ := hrel
      have E0 := Lib.hid e0
      have E1 := Lib.hid e1
      clear e0 e1
      by_cases hlt : j < l.length ∧ j < 300
      · obtain ⟨hq1, hq2⟩ := hlt
        obtain ⟨xb, xo, rfl, hxb, x0, x1, x2⟩ := HC.out j hq1
        replace x0 := (hB.cell (p := ⟨xb, xo + j * 3, none⟩) hxb).trans x0
        replace x1 := (hB.cell (p := ⟨xb, xo + j * 3 + 1, none⟩) hxb).trans x1
        replace x2 := (hB.cell (p := ⟨xb, xo + j * 3 + 2, none⟩) hxb).trans x2
        have t1 : decide (j < l.length) = true := decide_eq_true hq1
        have t2 : decide ((j : Int) < 300) = true := decide_eq_true (by omega)
        rcases hop : l[j] with ⟨k, kv, ku⟩
        rw [hop] at x0 x1 x2
        have hF1 := hF.alloc (.cells #[.int .i64 k, .int .i64 kv, .bool ku] 31)
        have hB1 := hB.alloc hB.size (.cells #[.int .i64 k, .int .i64 kv, .bool ku] 31)
        have hZ1 := hZ.alloc (.cells #[.int .i64 k, .int .i64 kv, .bool ku] 31)
        have hN1 := heap_alloc_new wr (.cells #[.int .i64 k, .int .i64 kv, .bool ku] 31)
        have hge := hF.ge (B := 0) (u := w)
        clear hop HC
        by_cases hk : k = 0
        · subst hk
          cases ku
          · by_cases hr : os.length < n
            · go_wp2_with fail
              refine (put_other kv hF1 hr).mono ?_
              rintro e w2 ⟨rfl, hF2, hR⟩
              have hB2 := hR.below _ _ hb hc1 hc2 hB1
              have hZ2 := hZ1.feed hF1 hR
              have hN2 := (hR.other wr.heap.size (by omega) (by omega) (by omega)).trans hN1
              clear hF hB hF1 hB1 hZ hZ1 hR x0 x1 x2 hN1
              generalize wr.heap.size = gp at *
              have y0 : w2.cell? ⟨gp, 0, none⟩ = some (.int .i64 0) := (blk_cell hN2 0).trans rfl
              have y1 : w2.cell? ⟨gp, 1, none⟩ = some (.int .i64 kv) := (blk_cell hN2 1).trans rfl
              have y2 : w2.cell? ⟨gp, 2, none⟩ = some (.bool false) := (blk_cell hN2 2).trans rfl
              have z1 : w2.cell? ⟨gi, 0, none⟩ = some a0 := (blk_cell hZ2.bi 0).trans rfl
              have z2 := blk_frozen hZ2.bi 0
              have z3 : (w2.alloc (.cells #[.int .i64 kv] 3)).cell? ⟨gi, 0, none⟩ = some a0 := (blk_cell (hZ2.alloc _).bi 0).trans rfl
              go_wp2_with fail
              go_region_law (refine step_push (W := w2.drew) (w0 := w) (base := w.heap.size) ?hw ?ho a0 p0 kv ?hs ?hx ?hr ?hb ?hz ?hl ?_; (case hw => simp [Region.wanted]); (case ho => rfl); (case hs => simp [Act.eval, Act.put]); (case hx => simp [Act.eval, Act.put]); (case hr => exact hZ2.drew.r0); (case hb => exact pw_below_drewN hB2 1); (case hz => exact hB2.size); (case hl => omega); intro v1 w3 hown hB3 hg hat; obtain ⟨A1, m1, cp1, rfl⟩ := own_form hown; have i1 : w3.heap[gi]? = some (.cells #[a0, a1] 29 (0, 0)) := (hg.block gi (lt_of_heap hZ2.bi) (hZ2.row_ne hZ2.r0).1).trans hZ2.bi; have i2 : w3.cell? ⟨gi, 0, none⟩ = some a0 := (blk_cell i1 0).trans rfl; have i3 := blk_frozen i1 0)
              all_goals
                have hZ3 := hZ2.drew.push0 hown hg hat
                have hF3 := hZ2.drew.fd hZ2.drew.r0 hg (.inl rfl) 0 (.slice A1 m1 cp1) (hF2.drewN 1)
                have hN3 := hZ2.drew.other hZ2.drew.r0 hg (.inl rfl) 0 (.slice A1 m1 cp1) (k := gp) hN2 (fun cs e => by simp at e) (fun cs e => by simp at e)
                have hB4 : Below w.heap.size w (w3.setCell ⟨gi, 0, none⟩ (.slice A1 m1 cp1)) := hB3.setCell hZ2.gib _
                have g0 : (w3.setCell ⟨gi, 0, none⟩ (.slice A1 m1 cp1)).cell? ⟨gp, 0, none⟩ = some (.int .i64 0) := (blk_cell hN3 0).trans rfl
                clear hF2 hB2 hZ2 hN2 y0 y1 y2 z1 z2 z3 hown hB3 hg hat i1 i2 i3 hN3
                generalize w3.setCell ⟨gi, 0, none⟩ (.slice A1 m1 cp1) = w5 at *
                go_wp2
                go_roundw
                case rel => exact ⟨j + 1, us, os ++ [kv], .slice A1 m1 cp1, a1, d0, d1, p0 ++ [kv], p1, q0, q1, by omega, by omega, by go_num, hF3, hu, by simp; omega, hZ3, by rw [E0.out]; simp, E1.out, by simp; omega, by omega, hB4⟩
                case measure => simp [intOf]; omega
            · go_wp2_with fail
              refine (put_other_full kv hF1 (by omega)).mono ?_
              rintro e w2 ⟨rfl, rfl⟩
              have hge2 : b < wr.heap.size := hge.1
              go_wp2
              go_roundw
              case rel => exact ⟨j + 1, us, os, a0, a1, d0, d1, p0, p1, q0, q1, by omega, by omega, by go_num, hF1, hu, ho, hZ1, E0.out, E1.out, by omega, by omega, hB1⟩
              case measure => simp [intOf]; omega
          · by_cases hr : us.length < n
            · go_wp2_with fail
              refine (put_urgent kv hF1 hr).mono ?_
              rintro e w2 ⟨rfl, hF2, hR⟩
              have hB2 := hR.below _ _ hb hc1 hc2 hB1
              have hZ2 := hZ1.feed hF1 hR
              have hN2 := (hR.other wr.heap.size (by omega) (by omega) (by omega)).trans hN1
              clear hF hB hF1 hB1 hZ hZ1 hR x0 x1 x2 hN1
              generalize wr.heap.size = gp at *
              have y0 : w2.cell? ⟨gp, 0, none⟩ = some (.int .i64 0) := (blk_cell hN2 0).trans rfl
              have y1 : w2.cell? ⟨gp, 1, none⟩ = some (.int .i64 kv) := (blk_cell hN2 1).trans rfl
              have y2 : w2.cell? ⟨gp, 2, none⟩ = some (.bool true) := (blk_cell hN2 2).trans rfl
              have z1 : w2.cell? ⟨gi, 1, none⟩ = some a1 := (blk_cell hZ2.bi 1).trans rfl
              have z2 := blk_frozen hZ2.bi 1
              have z3 : (w2.alloc (.cells #[.int .i64 kv] 3)).cell? ⟨gi, 1, none⟩ = some a1 := (blk_cell (hZ2.alloc _).bi 1).trans rfl
              go_wp2_with fail
              go_region_law (refine step_push (W := w2.drew) (w0 := w) (base := w.heap.size) ?hw ?ho a1 p1 kv ?hs ?hx ?hr ?hb ?hz ?hl ?_; (case hw => simp [Region.wanted]); (case ho => rfl); (case hs => simp [Act.eval, Act.put]); (case hx => simp [Act.eval, Act.put]); (case hr => exact hZ2.drew.r1); (case hb => exact pw_below_drewN hB2 1); (case hz => exact hB2.size); (case hl => omega); intro v1 w3 hown hB3 hg hat; obtain ⟨A1, m1, cp1, rfl⟩ := own_form hown; have i1 : w3.heap[gi]? = some (.cells #[a0, a1] 29 (0, 0)) := (hg.block gi (lt_of_heap hZ2.bi) (hZ2.row_ne hZ2.r1).1).trans hZ2.bi; have i2 : w3.cell? ⟨gi, 1, none⟩ = some a1 := (blk_cell i1 1).trans rfl; have i3 := blk_frozen i1 1)
              all_goals
                have hZ3 := hZ2.drew.push1 hown hg hat
                have hF3 := hZ2.drew.fd hZ2.drew.r1 hg (.inl rfl) 1 (.slice A1 m1 cp1) (hF2.drewN 1)
                have hN3 := hZ2.drew.other hZ2.drew.r1 hg (.inl rfl) 1 (.slice A1 m1 cp1) (k := gp) hN2 (fun cs e => by simp at e) (fun cs e => by simp at e)
                have hB4 : Below w.heap.size w (w3.setCell ⟨gi, 1, none⟩ (.slice A1 m1 cp1)) := hB3.setCell hZ2.gib _
                have g0 : (w3.setCell ⟨gi, 1, none⟩ (.slice A1 m1 cp1)).cell? ⟨gp, 0, none⟩ = some (.int .i64 0) := (blk_cell hN3 0).trans rfl
                clear hF2 hB2 hZ2 hN2 y0 y1 y2 z1 z2 z3 hown hB3 hg hat i1 i2 i3 hN3
                generalize w3.setCell ⟨gi, 1, none⟩ (.slice A1 m1 cp1) = w5 at *
                go_wp2
                go_roundw
                case rel => exact ⟨j + 1, us ++ [kv], os, a0, .slice A1 m1 cp1, d0, d1, p0, p1 ++ [kv], q0, q1, by omega, by omega, by go_num, hF3, by simp; omega, ho, hZ3, E0.out, by rw [E1.out]; simp, by omega, by simp; omega, hB4⟩
                case measure => simp [intOf]; omega
            · go_wp2_with fail
              refine (put_urgent_full kv hF1 (by omega)).mono ?_
              rintro e w2 ⟨rfl, rfl⟩
              have hge2 : b < wr.heap.size := hge.1
              go_wp2
              go_roundw
              case rel => exact ⟨j + 1, us, os, a0, a1, d0, d1, p0, p1, q0, q1, by omega, by omega, by go_num, hF1, hu, ho, hZ1, E0.out, E1.out, by omega, by omega, hB1⟩
              case measure => simp [intOf]; omega
        · have hk0 : (k == 0) = false := beq_eq_false_iff_ne.2 hk
          by_cases hk1 : k = 1
          · subst hk1
            have hql1 : q1.length ≤ 300 := by have := congrArg List.length E1.out; simp at this; omega
            have hql0 : q0.length ≤ 300 := by have := congrArg List.length E0.out; simp at this; omega
            cases us with
            | cons v us' =>
              cases ku
              all_goals
                go_wp2_with fail
                refine (take_urgent hF1).mono ?_
                rintro e w2 ⟨rfl, hF2, hR⟩
                have hB2 := hR.below _ _ hb hc1 hc2 hB1
                have hZ2 := hZ1.feed hF1 hR
                clear hF hB hF1 hB1 hZ hZ1 hR x0 x1 x2 hN1
                generalize wr.heap.size = gp at *
                have z1 : w2.cell? ⟨go, 1, none⟩ = some d1 := (blk_cell hZ2.bo 1).trans rfl
                have z2 := blk_frozen hZ2.bo 1
                go_wp2_with (at_builtin; refine print_append_num (w0 := w) (W := w2) w.heap.size rfl (.tmp 79) (.tmp 81) 28 3 .i64 8 rfl Try.underlying28 info3 (by decide) d1 q1 v rfl rfl hZ2.r3 hB2 hB2.size (by omega) ?_; intro v1 w3 hown hB3 hg hat; obtain ⟨A1, m1, cp1, rfl⟩ := own_form hown; have i1 : w3.heap[go]? = some (.cells #[d0, d1] 29 (0, 0)) := (hg.block go (lt_of_heap hZ2.bo) (hZ2.row_ne hZ2.r3).2).trans hZ2.bo; have i2 : w3.cell? ⟨go, 1, none⟩ = some d1 := (blk_cell i1 1).trans rfl; have i3 := blk_frozen i1 1)
                have hZ3 := hZ2.push3 hown hg hat
                have hF3 := hZ2.fd hZ2.r3 hg (.inr rfl) 1 (.slice A1 m1 cp1) hF2
                have hB4 : Below w.heap.size w (w3.setCell ⟨go, 1, none⟩ (.slice A1 m1 cp1)) := hB3.setCell hZ2.gob _
                go_roundw
                case rel => exact ⟨j + 1, us', os, a0, a1, d0, .slice A1 m1 cp1, p0, p1, q0, q1 ++ [v], by omega, by omega, by go_num, hF3, by simp at hu; omega, ho, hZ3, E0.out, by rw [E1.out]; simp, by omega, by omega, hB4⟩
                case measure => simp [intOf]; omega
            | nil =>
              cases os with
              | cons v os' =>
                cases ku
                all_goals
                  go_wp2_with fail
                  refine (take_other hF1).mono ?_
                  rintro e w2 ⟨rfl, hF2, hR⟩
                  have hB2 := hR.below _ _ hb hc1 hc2 hB1
                  have hZ2 := hZ1.feed hF1 hR
                  clear hF hB hF1 hB1 hZ hZ1 hR x0 x1 x2 hN1
                  generalize wr.heap.size = gp at *
                  have z1 : w2.cell? ⟨go, 0, none⟩ = some d0 := (blk_cell hZ2.bo 0).trans rfl
                  have z2 := blk_frozen hZ2.bo 0
                  go_wp2_with (at_builtin; refine print_append_num (w0 := w) (W := w2) w.heap.size rfl (.tmp 91) (.tmp 93) 28 3 .i64 8 rfl Try.underlying28 info3 (by decide) d0 q0 v rfl rfl hZ2.r2 hB2 hB2.size (by omega) ?_; intro v1 w3 hown hB3 hg hat; obtain ⟨A1, m1, cp1, rfl⟩ := own_form hown; have i1 : w3.heap[go]? = some (.cells #[d0, d1] 29 (0, 0)) := (hg.block go (lt_of_heap hZ2.bo) (hZ2.row_ne hZ2.r2).2).trans hZ2.bo; have i2 : w3.cell? ⟨go, 0, none⟩ = some d0 := (blk_cell i1 0).trans rfl; have i3 := blk_frozen i1 0)
                  have hZ3 := hZ2.push2 hown hg hat
                  have hF3 := hZ2.fd hZ2.r2 hg (.inr rfl) 0 (.slice A1 m1 cp1) hF2
                  have hB4 : Below w.heap.size w (w3.setCell ⟨go, 0, none⟩ (.slice A1 m1 cp1)) := hB3.setCell hZ2.gob _
                  go_roundw
                  case rel => exact ⟨j + 1, [], os', a0, a1, .slice A1 m1 cp1, d1, p0, p1, q0 ++ [v], q1, by omega, by omega, by go_num, hF3, by simp, by simp at ho; omega, hZ3, by rw [E0.out]; simp, E1.out, by omega, by omega, hB4⟩
                  case measure => simp [intOf]; omega
              | nil =>
                cases ku
                all_goals
                  go_wp2_with fail
                  refine (take_none hF1).mono ?_
                  rintro e w4 ⟨rfl, rfl⟩
                  go_wp2
                  go_roundw
                  case rel => exact ⟨j + 1, [], [], a0, a1, d0, d1, p0, p1, q0, q1, by omega, by omega, by go_num, hF1, by simp, by simp, hZ1, E0.out, E1.out, by omega, by omega, hB1⟩
                  case measure => simp [intOf]; omega
          · have hk2 : (k == 1) = false := beq_eq_false_iff_ne.2 hk1
            cases ku
            all_goals
              go_wp2
              go_roundw
              case rel => exact ⟨j + 1, us, os, a0, a1, d0, d1, p0, p1, q0, q1, by omega, by omega, by go_num, hF1, hu, ho, hZ1, E0.out, E1.out, by omega, by omega, hB1⟩
              case measure => simp [intOf]; omega
      · have hge : decide (j < l.length) = false ∨ (decide (j < l.length) = true ∧ decide ((j : Int) < 300) = false) := by
          by_cases t0 : j < l.length
          · exact .inr ⟨decide_eq_true t0, decide_eq_false (by omega)⟩
          · exact .inl (decide_eq_false t0)
        clear hlt HC
        have s1 : (p1.length : Int) - (q1.length : Int) = (us.length : Int) := by have := congrArg List.length E1.out; simp at this; omega
        have s0 : (p0.length : Int) - (q0.length : Int) = (os.length : Int) := by have := congrArg List.length E0.out; simp at this; omega
        have hQ1 : q1.length ≤ 300 := by omega
        have hQ0 : q0.length ≤ 300 := by omega
        have t3 : ((p1.length : Int) - (q1.length : Int) != (us.length : Int)) = false := by rw [s1]; simp
        have t4 : ((p0.length : Int) - (q0.length : Int) != (os.length : Int)) = false := by rw [s0]; simp
        have t5 : decide ((n : Int) < (us.length : Int)) = false := decide_eq_false (by omega)
        have t6 : decide ((n : Int) < (os.length : Int)) = false := decide_eq_false (by omega)
        have t7 : decide (n < us.length) = false := decide_eq_false (by omega)
        have t8 : decide (n < os.length) = false := decide_eq_false (by omega)
        obtain ⟨A0, k0, rfl⟩ := own_slice hZ.r0
        obtain ⟨A1, k1, rfl⟩ := own_slice hZ.r1
        obtain ⟨B0, m0, rfl⟩ := own_slice hZ.r2
        obtain ⟨B1, m1, rfl⟩ := own_slice hZ.r3
        clear s1 s0
        rcases hge with t1 | ⟨t1, t2⟩
        all_goals
          go_wp2_with fail
          refine (len_made hF).mono ?_
          rintro e w2 ⟨rfl, ⟨nd, rfl⟩⟩
          have hZ2 := hZ.drewN nd
          have hB2 := pw_below_drewN hB nd
          generalize wr.drewN nd = w2 at *
          clear hB hZ
          have y0 : w2.cell? ⟨gi, 0, none⟩ = some (.slice A0 p0.length k0) := (blk_cell hZ2.bi 0).trans rfl
          have y1 : w2.cell? ⟨gi, 1, none⟩ = some (.slice A1 p1.length k1) := (blk_cell hZ2.bi 1).trans rfl
          have y2 : w2.cell? ⟨go, 0, none⟩ = some (.slice B0 q0.length m0) := (blk_cell hZ2.bo 0).trans rfl
          have y3 : w2.cell? ⟨go, 1, none⟩ = some (.slice B1 q1.length m1) := (blk_cell hZ2.bo 1).trans rfl
          go_wp2_with fail
          go_loopw [17] (fun s wr2 => ∃ kk : Int, 0 ≤ kk ∧ kk ≤ 2 ∧ s = .int .i64 kk ∧ Four wr2 w.heap.size gi go (.slice A0 p0.length k0) (.slice A1 p1.length k1) (.slice B0 q0.length m0) (.slice B1 q1.length m1) p0 p1 q0 q1 ∧ Below w.heap.size w wr2) (fun s _ => 2 - (intOf s).toNat)
          case atStart => exact ⟨0, by omega, by omega, rfl, hZ2, hB2⟩
          case round =>
            clear hZ2 hB2 hF y0 y1 y2 y3 t3 t4 t5 t6 t7 t8
            obtain ⟨kk, hk0, hkk, rfl, hZ3, hB3⟩ := hrel
            have hnp1 : q1.length ≤ p1.length := by have := congrArg List.length E1.out; simp at this; omega
            have hnp0 : q0.length ≤ p0.length := by have := congrArg List.length E0.out; simp at this; omega
            rcases (by omega : kk = 0 ∨ kk = 1 ∨ kk = 2) with rfl | rfl | rfl
            · go_wp2_with fail
              go_loopw [18] (fun s wr3 => ∃ i : Nat, i ≤ q0.length ∧ s = .int .i64 i ∧ Four wr3 w.heap.size gi go (.slice A0 p0.length k0) (.slice A1 p1.length k1) (.slice B0 q0.length m0) (.slice B1 q1.length m1) p0 p1 q0 q1 ∧ Below w.heap.size w wr3) (fun s _ => q0.length - (intOf s).toNat)
              case atStart => exact ⟨0, by omega, rfl, hZ3, hB3⟩
              case round =>
                clear hZ3 hB3
                obtain ⟨i, hi, rfl, hZ4, hB4⟩ := hrel
                have y0 : wr.cell? ⟨gi, 0, none⟩ = some (.slice A0 p0.length k0) := (blk_cell hZ4.bi 0).trans rfl
                have y2 : wr.cell? ⟨go, 0, none⟩ = some (.slice B0 q0.length m0) := (blk_cell hZ4.bo 0).trans rfl
                by_cases hlt : i < q0.length
                · have u1 : decide (i < q0.length) = true := decide_eq_true hlt
                  have hple : i < p0.length := by omega
                  have u2 : decide (i < p0.length) = true := decide_eq_true hple
                  obtain ⟨g1, e1, z1⟩ := own_cell hZ4.r2 i hlt
                  obtain ⟨g2, e2, z2⟩ := own_cell hZ4.r0 i hple
                  cases e1
                  cases e2
                  have hsame : p0[i] = q0[i] := by
                    have h := E0.out
                    simp only [h]
                    exact List.getElem_append_left hlt
                  rw [hsame] at z2
                  clear hsame
                  go_wp2_with fail
                  go_quiet (fail)
                  go_wp2
                  go_roundw
                  case rel => exact ⟨i + 1, by omega, by go_num, hZ4.drewN _, pw_below_drewN hB4 _⟩
                  case measure => simp [intOf]; omega
                · have u1 : decide (i < q0.length) = false := decide_eq_false hlt
                  go_wp2
                  go_roundw
                  case rel => exact ⟨1, by omega, by omega, by go_num, hZ4, hB4⟩
                  case measure => simp [intOf]
            · go_wp2_with fail
              go_loopw [18] (fun s wr3 => ∃ i : Nat, i ≤ q1.length ∧ s = .int .i64 i ∧ Four wr3 w.heap.size gi go (.slice A0 p0.length k0) (.slice A1 p1.length k1) (.slice B0 q0.length m0) (.slice B1 q1.length m1) p0 p1 q0 q1 ∧ Below w.heap.size w wr3) (fun s _ => q1.length - (intOf s).toNat)
              case atStart => exact ⟨0, by omega, rfl, hZ3, hB3⟩
              case round =>
                clear hZ3 hB3
                obtain ⟨i, hi, rfl, hZ4, hB4⟩ := hrel
                have y0 : wr.cell? ⟨gi, 1, none⟩ = some (.slice A1 p1.length k1) := (blk_cell hZ4.bi 1).trans rfl
                have y2 : wr.cell? ⟨go, 1, none⟩ = some (.slice B1 q1.length m1) := (blk_cell hZ4.bo 1).trans rfl
                by_cases hlt : i < q1.length
                · have u1 : decide (i < q1.length) = true := decide_eq_true hlt
                  have hple : i < p1.length := by omega
                  have u2 : decide (i < p1.length) = true := decide_eq_true hple
                  obtain ⟨g1, e1, z1⟩ := own_cell hZ4.r3 i hlt
                  obtain ⟨g2, e2, z2⟩ := own_cell hZ4.r1 i hple
                  cases e1
                  cases e2
                  have hsame : p1[i] = q1[i] := by
                    have h := E1.out
                    simp only [h]
                    exact List.getElem_append_left hlt
                  rw [hsame] at z2
                  clear hsame
                  go_wp2_with fail
                  go_quiet (fail)
                  go_wp2
                  go_roundw
                  case rel => exact ⟨i + 1, by omega, by go_num, hZ4.drewN _, pw_below_drewN hB4 _⟩
                  case measure => simp [intOf]; omega
                · have u1 : decide (i < q1.length) = false := decide_eq_false hlt
                  go_wp2
                  go_roundw
                  case rel => exact ⟨2, by omega, by omega, by go_num, hZ4, hB4⟩
                  case measure => simp [intOf]
            · go_wp2_with fail
              refine (alive_true _).mono ?_
              rintro e w5 ⟨rfl, hB5⟩
              have hB6 := hB3.trans (hB5.mono hB3.size)
              go_wp2
              go_ret
              exact ⟨rfl, hB6⟩
end Go.Proofs.Ytgbgakbbkacplaa.Feed
