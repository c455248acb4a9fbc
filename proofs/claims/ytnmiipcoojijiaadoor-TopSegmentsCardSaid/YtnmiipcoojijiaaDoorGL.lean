/-
  rickyardref12.Same on alike records; conditions: those that each theorem states.
-/
import Derived.Test.YtnmiipcoojijiaaDoorGK
import Derived.Sort.Walk0
namespace Go.Proofs.YtnmiipcoojijiaaDoor.Top
set_option linter.unusedSimpArgs false
set_option linter.unusedVariables false
open Go.RowKit Go.Proofs.YtnmiipcoojijiaaDoorW.PrintWords Go.Proofs.YtnmiipcoojijiaaDoorW.PrintLast Go.Proofs.YtnmiipcoojijiaaDoorW.PrintMore Go.Proofs.YtnmiipcoojijiaaDoor.Plain Go.Proofs.YtnmiipcoojijiaaDoor.Fns
theorem less_self (x : List UInt8) : Op.bytesLess x x = false := by
  rw [bytesLess_eq]
  exact decide_eq_false (List.lt_irrefl x)
theorem order_l {l : List ByteArray} (hl : (l.length : Int) ≤ 9223372036854775806) : ∀ (n j : Nat), j ≤ l.length → l.length - j ≤ n → Lib.rickyardref06_Order.l0 (2 * n + 2) l l (j : Int) = some 0
  | 0, j, hj, hn => by
    unfold Lib.rickyardref06_Order.l0
    rw [if_neg (by omega)]
    unfold Lib.rickyardref06_Order.j1
    rw [if_neg (by simp), if_neg (by omega), if_neg (by omega)]
  | n + 1, j, hj, hn => by
    unfold Lib.rickyardref06_Order.l0
    by_cases h : (j : Int) < (l.length : Int)
    · rw [if_pos h, decide_eq_true h]
      unfold Lib.rickyardref06_Order.j1
      rw [if_pos rfl, if_pos (by omega), if_pos h, if_pos h, less_self, if_neg (by simp), if_neg (by simp), show wrap64 ((j : Int) + 1) = ((j + 1 : Nat) : Int) by unfold wrap64; omega]
      exact order_l hl n (j + 1) (by omega) (by omega)
    · rw [if_neg h]
      unfold Lib.rickyardref06_Order.j1
      rw [if_neg (by simp), if_neg (by omega), if_neg (by omega)]
theorem order_c {w : World} {A B : Option Addr} {c d : Nat} {l : List ByteArray} (hA : RdS w A l) (hB : RdS w B l) (hc : l.length ≤ c) (hd : l.length ≤ d) (hl : l.length ≤ 1000000) :
    Calls Tryd.prog 49 #[.slice A l.length c, .slice B l.length d] w fun e w' => e = .returned (.int .i64 0) ∧ Drawn0 w w' :=
  Lib.rickyardref06_Order.calls (2 * l.length + 2) A c l B d l 0 w hA hc hB hd (order_l (by omega) l.length 0 (by omega) (by omega))
set_option maxRecDepth 100000 in
set_option maxHeartbeats 8000000 in
theorem same_c {w : World} {r s : Rc} (h : r.rd w) (h' : s.rd w) (hf : r.fs = s.fs) (hm : r.m = s.m) (hk : ∀ x ∈ r.xs, x.s.f0.length ≤ 1000000) (hn : r.xs.length ≤ 1000000) :
    Calls Tryd.prog 29 #[r.v, s.v] w fun e w' => e = .returned (.bool true) ∧ Below w.heap.size w w' := by
  have hl : s.xs.length = r.xs.length := by
    have := congrArg List.length hf
    rw [fs_len, fs_len] at this
    exact this.symm
  have H1 := Aside0.mk h
  have H2 := Aside0.mk h'
  have HF := Aside0.mk hf
  have HL := Aside0.mk hl
  have HK := Aside0.mk hk
  unfold Rc.v
  rw [hl, ← hm]
  clear h h' hf hm hl hk
  go_enter Tryd.func29, Tryd.ntmps29
  go_wp2_with fail
  have hb0 : ((w.alloc (.cells #[.slice r.R r.xs.length r.c, .int .i64 r.m] 76)).alloc (.cells #[.slice s.R r.xs.length s.c, .int .i64 r.m] 76)).heap[w.heap.size]? = some (.cells #[.slice r.R r.xs.length r.c, .int .i64 r.m] 76 (0, 0)) := al_old (al_new rfl) _
  have hb1 : ((w.alloc (.cells #[.slice r.R r.xs.length r.c, .int .i64 r.m] 76)).alloc (.cells #[.slice s.R r.xs.length s.c, .int .i64 r.m] 76)).heap[w.heap.size + 1]? = some (.cells #[.slice s.R r.xs.length s.c, .int .i64 r.m] 76 (0, 0)) := al_new (by simp)
  have hbb : Below w.heap.size w ((w.alloc (.cells #[.slice r.R r.xs.length r.c, .int .i64 r.m] 76)).alloc (.cells #[.slice s.R r.xs.length s.c, .int .i64 r.m] 76)) := ((Below.refl _ w).alloc (Nat.le_refl _) _).alloc (by simp) _
  generalize hw0 : ((w.alloc (.cells #[.slice r.R r.xs.length r.c, .int .i64 r.m] 76)).alloc (.cells #[.slice s.R r.xs.length s.c, .int .i64 r.m] 76)) = w0 at *
  clear hw0
  go_loopw [5] (fun iv wr => ∃ j : Nat, j ≤ r.xs.length ∧ iv = .int .i64 j ∧ wr.heap[w.heap.size]? = some (.cells #[.slice r.R r.xs.length r.c, .int .i64 r.m] 76 (0, 0)) ∧ wr.heap[w.heap.size + 1]? = some (.cells #[.slice s.R r.xs.length s.c, .int .i64 r.m] 76 (0, 0)) ∧ Below w.heap.size w wr) (fun iv _ => r.xs.length - (intOf iv).toNat)
  case atStart => exact ⟨0, by omega, rfl, hb0, hb1, hbb⟩
  case round =>
    obtain ⟨j, hj, rfl, hA, hB, hBw⟩ := hrel
    have a0 : wr.cell? ⟨w.heap.size, 0, none⟩ = some (.slice r.R r.xs.length r.c) := (blk_cell hA 0).trans rfl
    have b0 : wr.cell? ⟨w.heap.size + 1, 0, none⟩ = some (.slice s.R r.xs.length s.c) := (blk_cell hB 0).trans rfl
    have HA := Aside0.mk hA
    have HB := Aside0.mk hB
    have HW := Aside0.mk hBw
    clear hA hB hBw hb0 hb1 hbb
    by_cases hlt : j < r.xs.length
    · have t1 : decide (j < r.xs.length) = true := decide_eq_true hlt
      have hlt2 : j < s.xs.length := by rw [HL.out]; exact hlt
      have g0 : (0 : Int) ≤ (j : Int) := by omega
      have g1 : (j : Int) < (r.xs.length : Int) := by omega
      have g2 : j < r.xs.length := hlt
      have eR := H1.out.a (by intro e; rw [e] at hlt; simp at hlt)
      have eS := H2.out.a (by intro e; rw [e] at hlt2; simp at hlt2)
      rw [eR] at a0
      rw [eS] at b0
      have hE1 := H1.out.row.below HW.out
      have hE2 := H2.out.row.below HW.out
      obtain ⟨x0, x1, x2⟩ := hE1.cells hlt
      obtain ⟨y0, y1, y2⟩ := hE2.cells hlt2
      have hr1 := hE1.rd _ (List.getElem_mem hlt)
      have hr2 := hE2.rd _ (List.getElem_mem hlt2)
      have hxk := HK.out _ (List.getElem_mem hlt)
      have hej : r.xs[j].s = s.xs[j].s := by
        have e1 : (r.xs.map Fc.s)[j]? = (s.xs.map Fc.s)[j]? := congrArg (·[j]?) HF.out
        rw [List.getElem?_map, List.getElem?_map, List.getElem?_eq_getElem hlt, List.getElem?_eq_getElem hlt2] at e1
        simpa using e1
      generalize r.xs[j] = x at *
      generalize s.xs[j] = y at *
      obtain ⟨xA, xc, xs⟩ := x
      obtain ⟨yA, yc, ys⟩ := y
      simp only at hej
      subst hej
      obtain ⟨f0, f1, f2⟩ := xs
      simp only at x0 x1 x2 y0 y1 y2 hxk
      have HO := Aside0.mk (fun (W : World) (hW : Below wr.heap.size wr W) => order_c (w := W) (hr1.k.below hW) (hr2.k.below hW) hr1.kc hr2.kc hxk)
      simp only at HO
      clear hE1 hE2 hlt hlt2 hr1 hr2 hxk eR eS
      go_wp2_with fail
      go_region_held3 (fun w' => w'.cell? ⟨w.heap.size, 0, none⟩ = some (.slice (some ⟨r.b, r.o, none⟩) r.xs.length r.c) ∧ w'.cell? ⟨w.heap.size + 1, 0, none⟩ = some (.slice (some ⟨s.b, s.o, none⟩) r.xs.length s.c) ∧ w'.cell? ⟨r.b, r.o + j * 3, none⟩ = some (.slice xA f0.length xc) ∧ w'.cell? ⟨r.b, r.o + j * 3 + 1, none⟩ = some (.int .i64 f1) ∧ w'.cell? ⟨r.b, r.o + j * 3 + 2, none⟩ = some (.int .i64 f2) ∧ w'.cell? ⟨s.b, s.o + j * 3, none⟩ = some (.slice yA f0.length yc) ∧ w'.cell? ⟨s.b, s.o + j * 3 + 1, none⟩ = some (.int .i64 f1) ∧ w'.cell? ⟨s.b, s.o + j * 3 + 2, none⟩ = some (.int .i64 f2)) (go_keep) (fail)
      · have hB6 : Below wr.heap.size wr (((wr.alloc (.cells #[.slice xA f0.length xc, .int .i64 f1, .int .i64 f2] 59)).alloc (.cells #[.slice yA f0.length yc, .int .i64 f1, .int .i64 f2] 59)).drew) := bdrew (((Below.refl _ wr).alloc (Nat.le_refl _) _).alloc (by simp) _)
        have hp6 : (((wr.alloc (.cells #[.slice xA f0.length xc, .int .i64 f1, .int .i64 f2] 59)).alloc (.cells #[.slice yA f0.length yc, .int .i64 f1, .int .i64 f2] 59)).drew).heap[wr.heap.size]? = some (.cells #[.slice xA f0.length xc, .int .i64 f1, .int .i64 f2] 59 (0, 0)) := al_old (al_new rfl) _
        have hq6 : (((wr.alloc (.cells #[.slice xA f0.length xc, .int .i64 f1, .int .i64 f2] 59)).alloc (.cells #[.slice yA f0.length yc, .int .i64 f1, .int .i64 f2] 59)).drew).heap[wr.heap.size + 1]? = some (.cells #[.slice yA f0.length yc, .int .i64 f1, .int .i64 f2] 59 (0, 0)) := al_new (by simp)
        generalize hw6 : ((wr.alloc (.cells #[.slice xA f0.length xc, .int .i64 f1, .int .i64 f2] 59)).alloc (.cells #[.slice yA f0.length yc, .int .i64 f1, .int .i64 f2] 59)).drew = W6 at *
        clear hw6
        have z0 : W6.cell? ⟨wr.heap.size, 0, none⟩ = some (.slice xA f0.length xc) := (blk_cell hp6 0).trans rfl
        have z1 : W6.cell? ⟨wr.heap.size + 1, 0, none⟩ = some (.slice yA f0.length yc) := (blk_cell hq6 0).trans rfl
        have H6 := Aside0.mk (And.intro hB6 (And.intro hp6 hq6))
        clear hB6 hp6 hq6
        go_wp2_with (first
          | (go_at_call 49
             refine (HO.out _ H6.out.1).mono ?_
             rintro e w7 ⟨rfl, hd⟩
             have hB7 := hd.below
             have hp7 := (hB7.block _ (blk_lt H6.out.2.1)).trans H6.out.2.1
             have hq7 := (hB7.block _ (blk_lt H6.out.2.2)).trans H6.out.2.2
             have u1 : w7.cell? ⟨wr.heap.size, 1, none⟩ = some (.int .i64 f1) := (blk_cell hp7 1).trans rfl
             have u2 : w7.cell? ⟨wr.heap.size, 2, none⟩ = some (.int .i64 f2) := (blk_cell hp7 2).trans rfl
             have v1 : w7.cell? ⟨wr.heap.size + 1, 1, none⟩ = some (.int .i64 f1) := (blk_cell hq7 1).trans rfl
             have v2 : w7.cell? ⟨wr.heap.size + 1, 2, none⟩ = some (.int .i64 f2) := (blk_cell hq7 2).trans rfl
             have H7 := Aside0.mk (H6.out.1.trans (hB7.mono H6.out.1.size))
             clear hp7 hq7 hB7)
          | fail)
        go_roundw
        case rel => exact ⟨j + 1, by omega, by go_num, (H7.out.block _ (blk_lt HA.out)).trans HA.out, (H7.out.block _ (blk_lt HB.out)).trans HB.out, HW.out.trans (H7.out.mono HW.out.size)⟩
        case measure => simp [intOf]; omega
      · have hB6 : Below wr.heap.size wr (((wr.alloc (.cells #[.slice yA f0.length yc, .int .i64 f1, .int .i64 f2] 59)).alloc (.cells #[.slice xA f0.length xc, .int .i64 f1, .int .i64 f2] 59)).drew) := bdrew (((Below.refl _ wr).alloc (Nat.le_refl _) _).alloc (by simp) _)
        have hp6 : (((wr.alloc (.cells #[.slice yA f0.length yc, .int .i64 f1, .int .i64 f2] 59)).alloc (.cells #[.slice xA f0.length xc, .int .i64 f1, .int .i64 f2] 59)).drew).heap[wr.heap.size + 1]? = some (.cells #[.slice xA f0.length xc, .int .i64 f1, .int .i64 f2] 59 (0, 0)) := al_new (by simp)
        have hq6 : (((wr.alloc (.cells #[.slice yA f0.length yc, .int .i64 f1, .int .i64 f2] 59)).alloc (.cells #[.slice xA f0.length xc, .int .i64 f1, .int .i64 f2] 59)).drew).heap[wr.heap.size]? = some (.cells #[.slice yA f0.length yc, .int .i64 f1, .int .i64 f2] 59 (0, 0)) := al_old (al_new rfl) _
        generalize hw6 : ((wr.alloc (.cells #[.slice yA f0.length yc, .int .i64 f1, .int .i64 f2] 59)).alloc (.cells #[.slice xA f0.length xc, .int .i64 f1, .int .i64 f2] 59)).drew = W6 at *
        clear hw6
        have z0 : W6.cell? ⟨wr.heap.size + 1, 0, none⟩ = some (.slice xA f0.length xc) := (blk_cell hp6 0).trans rfl
        have z1 : W6.cell? ⟨wr.heap.size, 0, none⟩ = some (.slice yA f0.length yc) := (blk_cell hq6 0).trans rfl
        have H6 := Aside0.mk (And.intro hB6 (And.intro hp6 hq6))
        clear hB6 hp6 hq6
        go_wp2_with (first
          | (go_at_call 49
             refine (HO.out _ H6.out.1).mono ?_
             rintro e w7 ⟨rfl, hd⟩
             have hB7 := hd.below
             have hp7 := (hB7.block _ (blk_lt H6.out.2.1)).trans H6.out.2.1
             have hq7 := (hB7.block _ (blk_lt H6.out.2.2)).trans H6.out.2.2
             have u1 : w7.cell? ⟨wr.heap.size + 1, 1, none⟩ = some (.int .i64 f1) := (blk_cell hp7 1).trans rfl
             have u2 : w7.cell? ⟨wr.heap.size + 1, 2, none⟩ = some (.int .i64 f2) := (blk_cell hp7 2).trans rfl
             have v1 : w7.cell? ⟨wr.heap.size, 1, none⟩ = some (.int .i64 f1) := (blk_cell hq7 1).trans rfl
             have v2 : w7.cell? ⟨wr.heap.size, 2, none⟩ = some (.int .i64 f2) := (blk_cell hq7 2).trans rfl
             have H7 := Aside0.mk (H6.out.1.trans (hB7.mono H6.out.1.size))
             clear hp7 hq7 hB7)
          | fail)
        go_roundw
        case rel => exact ⟨j + 1, by omega, by go_num, (H7.out.block _ (blk_lt HA.out)).trans HA.out, (H7.out.block _ (blk_lt HB.out)).trans HB.out, HW.out.trans (H7.out.mono HW.out.size)⟩
        case measure => simp [intOf]; omega
    · obtain rfl : j = r.xs.length := by omega
      have t1 : decide (r.xs.length < r.xs.length) = false := decide_eq_false hlt
      go_wp2_with fail
      go_ret
      exact ⟨rfl, HW.out⟩
set_option maxRecDepth 100000 in
theorem as_c {w : World} (R : Option Addr) (n c : Nat) (m : Int) :
    Calls Tryd.prog 30 #[.agg #[.slice R n c, .int .i64 m]] w fun e w' => e = .returned (.agg #[.slice R n c, .int .i64 m]) ∧ Below w.heap.size w w' := by
  go_enter Tryd.func30, Tryd.ntmps30
  go_wp2_with fail
  refine bodyPost_ret (results_cell_row rfl _ _ (w.heap.size + 1) 76 #[.slice R n c, .int .i64 m] (0, 0) _ rfl ?_ Tryd.underlying76 rfl (by kernel_rfl)) rfl ?_
  · exact al_new (by simp)
  · exact ⟨rfl, ((Below.refl _ w).alloc (Nat.le_refl _) _).alloc (by simp) _⟩
/-- A row of records as it is read. -/
structure RcSl (W : World) (A : Option Addr) (b : Nat) (rs : List Rc) : Prop where
  a : rs ≠ [] → A = some ⟨b, 0, none⟩
  c0 : ∀ j (h : j < rs.length), W.cell? ⟨b, j * 2, none⟩ = some (.slice rs[j].R rs[j].xs.length rs[j].c)
  c1 : ∀ j (h : j < rs.length), W.cell? ⟨b, j * 2 + 1, none⟩ = some (.int .i64 rs[j].m)
theorem RcSl.below {W W1 : World} {A : Option Addr} {b : Nat} {rs : List Rc} (h : RcSl W A b rs) (hb : Below W.heap.size W W1) : RcSl W1 A b rs :=
  ⟨h.a, fun j hj => cell_below hb (h.c0 j hj), fun j hj => cell_below hb (h.c1 j hj)⟩
theorem RcSl.take {W : World} {A : Option Addr} {b : Nat} {rs : List Rc} (h : RcSl W A b rs) (k : Nat) : RcSl W A b (rs.take k) :=
  ⟨fun e => h.a (fun e2 => e (by rw [e2, List.take_nil])), fun j hj => by
    rw [List.length_take] at hj
    rw [List.getElem_take]
    exact h.c0 j (by omega), fun j hj => by
    rw [List.length_take] at hj
    rw [List.getElem_take]
    exact h.c1 j (by omega)⟩
theorem rcs_get : ∀ (rs : List Rc) (j m : Nat) (hj : j < rs.length), m < 2 → (rs.flatMap Rc.cells)[j * 2 + m]? = rs[j].cells[m]?
  | x :: xs, 0, m, _, hm => by
    have hl : x.cells.length = 2 := rfl
    rw [List.flatMap_cons, Nat.zero_mul, Nat.zero_add, List.getElem?_append_left (by omega)]
    rfl
  | x :: xs, j + 1, m, hj, hm => by
    have hl : x.cells.length = 2 := rfl
    have hj' : j < xs.length := by simpa using hj
    rw [List.flatMap_cons, List.getElem?_append_right (by omega), hl, show (j + 1) * 2 + m - 2 = j * 2 + m by omega, rcs_get xs j m hj' hm]
    rfl
theorem rcs_len (rs : List Rc) : (rs.flatMap Rc.cells).length = rs.length * 2 := by
  induction rs with
  | nil => rfl
  | cons x xs ih =>
    have hl : x.cells.length = 2 := rfl
    rw [List.flatMap_cons, List.length_append, ih, hl, List.length_cons]
    omega
/-- An own row of records can be read. -/
theorem own_sl {W : World} {n₀ e : Nat} {v : Value} {rs : List Rc} (h : W.ownsRow n₀ e 2 v rs.length (rs.flatMap Rc.cells)) : ∃ A c b, v = .slice A rs.length c ∧ RcSl W A b rs ∧ (rs ≠ [] → W.heap.size > b ∧ n₀ ≤ b) ∧ rs.length ≤ c := by
  obtain ⟨A, c, b, rfl, hr⟩ := row_block h
  have hc : ∀ j (hj : j < rs.length) (m : Nat), m < 2 → ∀ u, rs[j].cells[m]? = some u → A = some ⟨b, 0, none⟩ ∧ W.cell? ⟨b, j * 2 + m, none⟩ = some u ∧ b < W.heap.size := fun j hj m hm u hu => by
    have hi : j * 2 + m < (rs.flatMap Rc.cells).length := by rw [rcs_len]; omega
    obtain ⟨h1, cs, h2, h3⟩ := hr _ hi
    have h4 := rcs_get rs j m hj hm
    rw [hu, List.getElem?_eq_getElem hi] at h4
    refine ⟨h1, (blk_cell h2 _).trans ?_, blk_lt h2⟩
    rw [h3]
    exact h4
  have hcap : rs.length ≤ c := by
    rcases h.2 with ⟨e, h0⟩ | ⟨g, cap, cur, e, _, _, hc, _⟩
    · omega
    · injection e with e1 e2 e3
      omega
  refine ⟨A, c, b, rfl, ⟨fun e => ?_, fun j hj => ?_, fun j hj => ?_⟩, fun e => ?_, hcap⟩
  · exact (hc 0 (List.length_pos_iff.2 e) 0 (by omega) _ rfl).1
  · exact (hc j hj 0 (by omega) _ rfl).2.1
  · exact (hc j hj 1 (by omega) _ rfl).2.1
  · have h1 := hc 0 (List.length_pos_iff.2 e) 0 (by omega) _ rfl
    obtain rfl := h1.1
    exact ⟨h1.2.2, (h.lt b rfl).1⟩
theorem info_ref : (Tryd.prog.info? 76).map (fun i => (i.zero, i.size, i.bytes)) = some (some (.agg #[.slice none 0 0, .int .i64 0]), 2, 32) := by kernel_rfl
theorem ref_new (W : World) (r : Rc) : ∀ j u, r.cells[j]? = some u → (W.alloc (.cells #[.slice r.R r.xs.length r.c, .int .i64 r.m] 76)).cell? ((⟨W.heap.size, 0, none⟩ : Addr).add j) = some u := fun j u hj => by
  rw [Addr.add_lit, Nat.zero_add]
  refine (blk_cell (al_new (W := W) (o := .cells #[.slice r.R r.xs.length r.c, .int .i64 r.m] 76) rfl) j).trans ?_
  show (r.cells.toArray)[j]? = _
  rw [List.getElem?_toArray]
  exact hj
theorem rc_one (r : Rc) : ∀ u ∈ r.cells, u.oneCell' = true := fun u hu => by
  simp only [Rc.cells, List.mem_cons, List.not_mem_nil, or_false] at hu
  rcases hu with rfl | rfl <;> rfl
set_option maxRecDepth 100000 in
set_option maxHeartbeats 8000000 in
theorem asall_c {w : World} {A : Option Addr} {b c : Nat} {rs : List Rc} (h : RcSl w A b rs) (hn : rs.length ≤ 1000) :
    Calls Tryd.prog 14 #[.slice A rs.length c] w fun e w' => ∃ v, e = .returned v ∧ w'.ownsRow w.heap.size 76 2 v rs.length (rs.flatMap Rc.cells) ∧ Below w.heap.size w w' := by
  have H := Aside0.mk h
  clear h
  go_enter Tryd.func14, Tryd.ntmps14
  go_wp2_with fail
  go_loopw [3, 4] (fun ov i wr => ∃ (j : Nat), i = .int .i64 j ∧ j ≤ rs.length ∧ Aside0 (wr.ownsRow w.heap.size 76 2 ov j ((rs.take j).flatMap Rc.cells)) ∧ Aside0 (Below w.heap.size w wr)) (fun _ i _ => rs.length - (intOf i).toNat)
  case atStart => exact ⟨0, rfl, Nat.zero_le _, ⟨World.ownsRow_nil _ _ _ _⟩, ⟨Below.refl _ _⟩⟩
  case round =>
    obtain ⟨j, rfl, hj, HO, HB⟩ := hrel
    by_cases hlt : j < rs.length
    · have t1 : decide (j < rs.length) = true := decide_eq_true hlt
      have g0 : (0 : Int) ≤ (j : Int) := by omega
      have g1 : (j : Int) < (rs.length : Int) := by omega
      have g2 : j < rs.length := hlt
      obtain rfl := H.out.a (by intro e; rw [e] at hlt; simp at hlt)
      have x0 := (H.out.below HB.out).c0 j hlt
      have x1 := (H.out.below HB.out).c1 j hlt
      have hr : rs[j]? = some rs[j] := List.getElem?_eq_getElem hlt
      generalize rs[j] = r at *
      have HR := Aside0.mk hr
      have HA := Aside0.mk (fun (W : World) => as_c (w := W) r.R r.xs.length r.c r.m)
      obtain ⟨i0, hi, hzz⟩ := Option.map_eq_some_iff.1 info_ref
      simp only [Prod.mk.injEq] at hzz
      obtain ⟨hz0, hz1, hz2⟩ := hzz
      clear hr
      go_wp2_with (first
        | (go_at_call 30
           refine (HA.out _).mono ?_
           rintro e w5 ⟨rfl, hb5⟩
           have HB5 := Aside0.mk hb5
           have HO5 := Aside0.mk (own_below HO.out hb5)
           clear hb5)
        | (at_builtin
           refine wpList_append_own_at _ rfl _ _ 44 rfl w.heap.size 76 i0 _ 2 32 Tryd.underlying44 hi hz0 hz1 hz2 rfl (by decide) _ _ _ rfl (HO5.out.alloc _) ⟨w5.heap.size, 0, none⟩ 1 1 r.cells (by first | rfl | (simp [World.size_alloc]; done)) rfl (ref_new _ r) (rc_one r) (by simp only [maxLen]; omega) (by omega) (by have := HB.out.size; have := HB5.out.size; simp only [World.size_alloc] at *; omega) ?_
           intro v7 w7 hown7 hg7 hnil7 hat7)
        | fail)
      go_roundw
      case rel =>
        refine ⟨j + 1, by go_num, by omega, ⟨?_⟩, ⟨?_⟩⟩
        · rw [List.take_add_one, HR.out, List.flatMap_append]
          simpa using hown7
        · exact ((HB.out.trans (HB5.out.mono HB.out.size)).alloc (Nat.le_trans HB.out.size HB5.out.size) _).grown hg7 (by have := HB.out.size; have := HB5.out.size; simp only [World.size_alloc] at *; omega) (fun k hk => (HO5.out.lt k hk).1)
      case measure => simp [intOf]; omega
    · obtain rfl : j = rs.length := by omega
      have t1 : decide (rs.length < rs.length) = false := decide_eq_false hlt
      have ho := HO.out
      rw [List.take_length] at ho
      go_wp2_with fail
      go_ret
      exact ⟨_, rfl, ho, HB.out⟩
set_option maxRecDepth 100000 in
set_option maxHeartbeats 8000000 in
theorem sameall_c {w : World} {A B : Option Addr} {a b c d : Nat} {rs ss : List Rc} (h : RcSl w A a rs) (h' : RcSl w B b ss) (he : rs.map Rc.pr = ss.map Rc.pr) (hr : ∀ r ∈ rs, r.rd w) (hs : ∀ r ∈ ss, r.rd w) (hk : ∀ r ∈ rs, r.xs.length ≤ 1000000 ∧ ∀ x ∈ r.xs, x.s.f0.length ≤ 1000000) (hn : rs.length ≤ 1000) :
    Calls Tryd.prog 13 #[.slice A rs.length c, .slice B ss.length d] w fun e w' => e = .returned (.bool true) ∧ Below w.heap.size w w' := by
  have hl : ss.length = rs.length := by
    have := congrArg List.length he
    simpa using this.symm
  have H1 := Aside0.mk h
  have H2 := Aside0.mk h'
  have HE := Aside0.mk he
  have HL := Aside0.mk hl
  have HS := Aside0.mk (And.intro hr (And.intro hs hk))
  rw [hl]
  clear h h' he hl hr hs hk
  go_enter Tryd.func13, Tryd.ntmps13
  go_wp2_with fail
  go_loopw [5] (fun iv wr => ∃ j : Nat, j ≤ rs.length ∧ iv = .int .i64 j ∧ Below w.heap.size w wr) (fun iv _ => rs.length - (intOf iv).toNat)
  case atStart => exact ⟨0, by omega, rfl, Below.refl _ _⟩
  case round =>
    obtain ⟨j, hj, rfl, hB⟩ := hrel
    have HB := Aside0.mk hB
    clear hB
    by_cases hlt : j < rs.length
    · have t1 : decide (j < rs.length) = true := decide_eq_true hlt
      have hlt2 : j < ss.length := by rw [HL.out]; exact hlt
      have g0 : (0 : Int) ≤ (j : Int) := by omega
      have g1 : (j : Int) < (rs.length : Int) := by omega
      have g2 : j < rs.length := hlt
      obtain rfl := H1.out.a (by intro e; rw [e] at hlt; simp at hlt)
      obtain rfl := H2.out.a (by intro e; rw [e] at hlt2; simp at hlt2)
      have x0 := (H1.out.below HB.out).c0 j hlt
      have x1 := (H1.out.below HB.out).c1 j hlt
      have y0 := (H2.out.below HB.out).c0 j hlt2
      have y1 := (H2.out.below HB.out).c1 j hlt2
      have hej : rs[j].pr = ss[j].pr := by
        have e1 : (rs.map Rc.pr)[j]? = (ss.map Rc.pr)[j]? := congrArg (·[j]?) HE.out
        rw [List.getElem?_map, List.getElem?_map, List.getElem?_eq_getElem hlt, List.getElem?_eq_getElem hlt2] at e1
        simpa using e1
      have h1 := HS.out.1 _ (List.getElem_mem hlt)
      have h2 := HS.out.2.1 _ (List.getElem_mem hlt2)
      have h3 := HS.out.2.2 _ (List.getElem_mem hlt)
      generalize rs[j] = r at *
      generalize ss[j] = s at *
      simp only [Rc.pr, Prod.mk.injEq] at hej
      have HC := Aside0.mk (fun (W : World) (hW : Below wr.heap.size wr W) => same_c (w := W) ((h1.below HB.out).below hW) ((h2.below HB.out).below hW) hej.1 hej.2 h3.2 h3.1)
      unfold Rc.v at HC
      have HX := Aside0.mk (fun (W : World) (hW : Below wr.heap.size wr W) => (⟨hW, cell_below hW x0, cell_below hW x1, cell_below hW y0, cell_below hW y1⟩ : Below wr.heap.size wr W ∧ W.cell? ⟨a, j * 2, none⟩ = some (.slice r.R r.xs.length r.c) ∧ W.cell? ⟨a, j * 2 + 1, none⟩ = some (.int .i64 r.m) ∧ W.cell? ⟨b, j * 2, none⟩ = some (.slice s.R s.xs.length s.c) ∧ W.cell? ⟨b, j * 2 + 1, none⟩ = some (.int .i64 s.m)))
      clear h1 h2 h3 hej hlt hlt2
      go_wp2_with fail
      go_region_held3 (fun w' => Below wr.heap.size wr w' ∧ w'.cell? ⟨a, j * 2, none⟩ = some (.slice r.R r.xs.length r.c) ∧ w'.cell? ⟨a, j * 2 + 1, none⟩ = some (.int .i64 r.m) ∧ w'.cell? ⟨b, j * 2, none⟩ = some (.slice s.R s.xs.length s.c) ∧ w'.cell? ⟨b, j * 2 + 1, none⟩ = some (.int .i64 s.m)) (exact HX.out _ (by (repeat' (first | with_reducible exact Below.refl _ _ | with_reducible assumption | with_reducible apply bdrew | with_reducible apply bdrewN | with_reducible apply balloc | with_reducible refine bset ?_ (Nat.le_refl _))))) (first | (go_at_call 29; refine (HC.out _ (by (repeat' (first | with_reducible exact Below.refl _ _ | with_reducible assumption | with_reducible apply bdrew | with_reducible apply bdrewN | with_reducible apply balloc | with_reducible refine bset ?_ (Nat.le_refl _))))).mono ?_; rintro e w7 ⟨rfl, hb7⟩; have hb8 : Below wr.heap.size wr w7 := (bdrew (Below.refl _ wr)).trans hb7; clear hb7) | fail)
      all_goals
        rename_i hHeld
        have H8 := Aside0.mk hb8
        clear hb8 hHeld
        go_wp2_with fail
        exact ⟨⟨j + 1, by omega, by go_num, HB.out.trans (H8.out.mono HB.out.size)⟩, by simp [intOf]; omega⟩
    · obtain rfl : j = rs.length := by omega
      have t1 : decide (rs.length < rs.length) = false := decide_eq_false hlt
      go_wp2_with fail
      go_ret
      exact ⟨rfl, HB.out⟩
theorem rgreat1 {l : List Lib.S59} {m : Int} {j : Nat} (hj : j < l.length) (hd : (Lib.rd_T59 l (j : Int)).f0.length ≤ 8) (h : ∃ k r, Lib.rickyardlaw12_Great.l0 k ((j + 1 : Nat) : Int) l m = some r) (hl : l.length ≤ 40) :
    ∀ (n i : Nat), i ≤ (Lib.rd_T59 l (j : Int)).f0.length → (Lib.rd_T59 l (j : Int)).f0.length - i ≤ n → ∃ k r, Lib.rickyardlaw12_Great.l1 k (j : Int) (i : Int) l m = some r := by
  have base : ∀ i : Nat, ¬ i < (Lib.rd_T59 l (j : Int)).f0.length → ∃ k r, Lib.rickyardlaw12_Great.l1 k (j : Int) (i : Int) l m = some r := fun i hi => by
    obtain ⟨k, r, hr⟩ := h
    refine ⟨k + 1, r, ?_⟩
    unfold Lib.rickyardlaw12_Great.l1
    rw [if_pos (by omega), if_pos (by omega), if_neg (by omega), show wrap64 ((j : Int) + 1) = ((j + 1 : Nat) : Int) by unfold wrap64; omega]
    exact hr
  intro n
  induction n with
  | zero => exact fun i h1 h2 => base i (by omega)
  | succ n ih =>
    intro i h1 h2
    by_cases hi : i < (Lib.rd_T59 l (j : Int)).f0.length
    · obtain ⟨k, r, hr⟩ := ih (i + 1) (by omega) (by omega)
      by_cases h3 : ((rdOf ByteArray.empty ((Lib.rd_T59 l (j : Int)).f0) (i : Int)).size : Int) > 100
      · refine ⟨1, true, ?_⟩
        unfold Lib.rickyardlaw12_Great.l1
        rw [if_pos (by omega), if_pos (by omega), if_pos (by omega), if_pos (by omega), if_pos h3]
      · refine ⟨k + 1, r, ?_⟩
        unfold Lib.rickyardlaw12_Great.l1
        rw [if_pos (by omega), if_pos (by omega), if_pos (by omega), if_pos (by omega), if_neg h3, show wrap64 ((i : Int) + 1) = ((i + 1 : Nat) : Int) by unfold wrap64; omega]
        exact hr
    · exact base i hi
theorem rgreat0 {l : List Lib.S59} {m : Int} (hl : l.length ≤ 40) : ∀ (n j : Nat), j ≤ l.length → l.length - j ≤ n → ∃ k r, Lib.rickyardlaw12_Great.l0 k (j : Int) l m = some r
  | 0, j, hj, hn => ⟨1, false, by unfold Lib.rickyardlaw12_Great.l0; rw [if_neg (by omega)]⟩
  | n + 1, j, hj, hn => by
    by_cases h : j < l.length
    · by_cases hd : (((Lib.rd_T59 l (j : Int)).f0).length : Int) > 8
      · refine ⟨1, true, ?_⟩
        unfold Lib.rickyardlaw12_Great.l0
        rw [if_pos (by omega), if_pos (by omega), if_pos hd]
      · obtain ⟨k, r, hr⟩ := rgreat1 (m := m) h (by omega) (rgreat0 hl n (j + 1) (by omega) (by omega)) hl _ 0 (Nat.zero_le _) (Nat.le_refl _)
        refine ⟨k + 1, r, ?_⟩
        unfold Lib.rickyardlaw12_Great.l0
        rw [if_pos (by omega), if_pos (by omega), if_neg hd]
        exact hr
    · exact ⟨1, false, by unfold Lib.rickyardlaw12_Great.l0; rw [if_neg (by omega)]⟩
theorem rgreat_f (l : List Lib.S59) (m : Int) : ∃ k r, Lib.rickyardlaw12_Great.f k l m = some r := by
  unfold Lib.rickyardlaw12_Great.f
  by_cases h : (l.length : Int) > 40
  · exact ⟨0, true, by rw [if_pos h]⟩
  · obtain ⟨k, r, hr⟩ := rgreat0 (l := l) (m := m) (by omega) l.length 0 (Nat.zero_le _) (by omega)
    exact ⟨k, r, by rw [if_neg h]; exact hr⟩
theorem rc_kd {w : World} {r : Rc} (h : r.rd w) : Lib.k59.C w r.R r.fs.length r.fs := by
  refine ⟨rfl, by rw [fs_len]; have := h.mx; omega, fun h0 => ?_⟩
  have hne : r.xs ≠ [] := fun e => by rw [fs_len, e] at h0; simp at h0
  refine ⟨_, h.a hne, fun j p hp => ?_⟩
  have hj : j < r.xs.length := by
    have := (List.getElem?_eq_some_iff.1 hp).1
    rw [fs_len] at this
    exact this
  have hx := h.row.rd _ (List.getElem_mem hj)
  obtain ⟨c0, c1, c2⟩ := h.row.cells hj
  have he : p = r.xs[j].s := by
    unfold Rc.fs at hp
    rw [List.getElem?_map, List.getElem?_eq_getElem hj] at hp
    exact (Option.some.inj hp).symm
  subst he
  refine ⟨_, rfl, Lib.k59_mk w _ hx.kc hx.k, fun i u hu => ?_⟩
  have hi : i < 3 := (List.getElem?_eq_some_iff.1 hu).1
  show w.cell? ((⟨r.b, r.o, none⟩ : Addr).add (j * 3 + i)) = some u
  rw [Addr.add_lit]
  match i, hi, hu with
  | 0, _, hu => cases hu; exact c0
  | 1, _, hu => cases hu; exact c1
  | 2, _, hu => cases hu; exact c2
theorem rgreat_c {w : World} {r : Rc} (h : r.rd w) : Calls Tryd.prog 8 #[r.v] w fun e w' => (∃ b, e = .returned (.bool b)) ∧ Below w.heap.size w w' := by
  obtain ⟨k, b, hb⟩ := rgreat_f r.fs r.m
  have hc := h.c
  rw [← fs_len] at hc
  have := Lib.rickyardlaw12_Great.calls k r.R r.c r.fs r.m b w (rc_kd h) hc hb
  rw [fs_len] at this
  exact this.mono fun e w' ⟨h1, h2⟩ => ⟨⟨b, h1⟩, h2⟩
/-- A file system that was made. -/
def fs0 (N : Nat) (room : Int) : Fs := { lo := N, fb := N + 2, db := N, ob := N + 1, room := room, dm := nob, om := nob, pd := none, pl := false, af := 0, er := 0, fd := fun _ => ([], 0) }
theorem fs0_is {N : Nat} {room : Int} {b : Nat} : ¬ (fs0 N room).Is b := by
  rintro (⟨n, h⟩ | ⟨n, h⟩ | ⟨n, h⟩)
  · cases h
  · cases h
  · cases h
theorem fs0_at {N : Nat} {room : Int} {W : World} (hr : 1 ≤ room) (hb : FsB (N + 2) room (.map (some N)) (.map (some (N + 1))) (.slice none 0 0) false 0 0 W) (h1 : W.heap[N]? = some (.map #[] 0)) (h2 : W.heap[N + 1]? = some (.map #[] 0)) : FsAt (fs0 N room) 0 W where
  box := ⟨_, hb, rfl⟩
  dmp := MapAt.made h1
  omp := MapAt.made h2
  ne := by show N ≠ N + 1; omega
  files := fun b h => absurd h fs0_is
  pdn := fun n b h => by cases h
  hr := hr
  ha := by show -9223372036854775808 ≤ (0 : Int) ∧ (0 : Int) < 9223372036854775808; omega
  l1 := by show N ≤ N + 2; omega
  l2 := Nat.le_refl _
  l3 := by show N ≤ N + 1; omega
  l4 := fun b h => absurd h fs0_is
theorem new_c {w : World} {room : Int} (h : 1 ≤ room) : Calls Tryd.prog 4 #[.int .i64 room] w fun e w' => e = .returned (.tuple #[.pointer (some ⟨w.heap.size + 2, 0, none⟩), .int .i64 0]) ∧ FsAt (fs0 w.heap.size room) 0 w' ∧ Below w.heap.size w w' :=
  (fsnew_c h).mono fun e w' ⟨h1, h2, h3, h4, h5⟩ => ⟨h1, fs0_at h h2 h3 h4, h5⟩
def mark4 : Rc := ⟨none, 0, 0, 0, [], 4⟩
theorem mark4_rd (W : World) : mark4.rd W := ⟨fun h => absurd rfl h, ⟨fun j hj => by simp [mark4] at hj, fun x hx => by cases hx⟩, Nat.le_refl _, by simp [mark4]⟩
theorem mark4_len : (frameF (recB mark4.fs mark4.m)).length = 17 := by
  rw [frameF_len]
  rfl
set_option maxRecDepth 100000 in
set_option maxHeartbeats 8000000 in
theorem alive_c (w : World) : Calls Tryd.prog 5 #[] w fun e w' => e = .returned (.bool true) ∧ Below w.heap.size w w' := by
  have HS : Aside0 (∀ W, FsAt (fs0 w.heap.size 1000) 0 W → Calls Tryd.prog 7 #[.pointer (some ⟨w.heap.size + 2, 0, none⟩), .int .i64 3] W fun e w' => ∃ (l b : Nat) (F' : Fs), e = .returned (.tuple #[.pointer (some ⟨l, 0, none⟩), .int .i64 0]) ∧ w'.heap[l]? = some (logC (w.heap.size + 2) 3) ∧ FsAt F' 2 w' ∧ KeepFs w.heap.size W w' ∧ StaOk (fs0 w.heap.size 1000) F' 3 b) := ⟨fun W hW =>
    (start_c (n := 3) hW rfl rfl (by omega) (by omega) (by omega)).mono fun e w' h => by
      rcases h with ⟨r, F', _, _, _, _, hb⟩ | ⟨l, b, F', h1, h2, h3, h4, h5⟩
      · exact absurd (show false = true from hb.pl) (by decide)
      · exact ⟨l, b, F', h1, h2, h3, h4, h5⟩⟩
  have HA : Aside0 (∀ (W : World) (l b : Nat) (F : Fs), W.heap[l]? = some (logC (w.heap.size + 2) 3) → FsAt F 2 W → StaOk (fs0 w.heap.size 1000) F 3 b → Calls Tryd.prog 9 #[.pointer (some ⟨l, 0, none⟩), .agg #[.slice none 0 0, .int .i64 4]] W fun e w' => ∃ F', e = .returned (.int .i64 0) ∧ FsAt F' 2 w' ∧ KeepFs w.heap.size W w' ∧ w'.heap[l]? = some (logC (w.heap.size + 2) 3) ∧ F'.fb = w.heap.size + 2 ∧ F'.lo = w.heap.size ∧ F'.dm = upd nob 3 b ∧ F'.pl = false ∧ (F'.fd b).1.length = 17) := ⟨fun W l b F hl hF hs => by
    have hfb : F.fb = w.heap.size + 2 := hs.fb
    have hlo : F.lo = w.heap.size := hs.lo
    have hdm : F.dm = upd nob 3 b := hs.dm
    have hl' : W.heap[l]? = some (logC F.fb 3) := by rw [hfb]; exact hl
    have hpl : F.pl = false := hs.pl rfl
    have h1 := add_c (r := mark4) hF (by rw [hdm]; exact upd_same _ _ _) hl' (mark4_rd W) (by simp [mark4])
    refine Calls.mono h1 fun e w' ⟨g, F', he, hF', hk, _, hr⟩ => ?_
    obtain ⟨ha, hg⟩ := hr (by decide)
    have hfd : F.fd b = ([], 0) := by rw [hs.fd]; simp
    have hroom : F.room = 1000 := hs.room
    have hg0 : g = 0 := by
      rw [hg 3 hdm (by rw [hroom]; omega) (by rw [mark4_len, hroom, hfd]; simp) (by rw [mark4_len, hfd]; simp)]
      unfold Fs.pw planF
      rw [if_pos hpl]
    subst hg0
    refine ⟨F', he, hF', by rw [← hlo]; exact hk, (hk.ty l _ _ hl (by decide) (by decide)).trans hl, ha.fb.trans hfb, ha.lo.trans hlo, ha.dm.trans hdm, ha.pl hpl, ?_⟩
    rw [ha.ok rfl]
    simp only [if_true]
    rw [hfd, List.nil_append, mark4_len]⟩
  have HY : Aside0 (∀ (W : World) (l b : Nat) (F : Fs), W.heap[l]? = some (logC (w.heap.size + 2) 3) → FsAt F 2 W → F.fb = w.heap.size + 2 → F.lo = w.heap.size → F.dm = upd nob 3 b → F.pl = false → (F.fd b).1.length = 17 → Calls Tryd.prog 10 #[.pointer (some ⟨l, 0, none⟩)] W fun e w' => ∃ F', e = .returned (.int .i64 0) ∧ FsAt F' 2 w' ∧ KeepFs w.heap.size W w' ∧ F'.fb = w.heap.size + 2 ∧ F'.dm = upd nob 3 b ∧ (F'.fd b).1.length = 17) := ⟨fun W l b F hl hF hfb hlo hdm hpl h17 => by
    have hpw : F.pw = 0 := by
      unfold Fs.pw planF
      rw [if_pos hpl]
    refine Calls.mono (lsync_c hF (by rw [hdm]; exact upd_same _ _ _) (by rw [hfb]; exact hl)) fun e w' ⟨he, hF', hk⟩ => ⟨F.syn b, by rw [he, hpw], hF', by rw [← hlo]; exact hk, ?_, ?_, ?_⟩
    all_goals
      unfold Fs.syn
      rw [if_pos hpw]
    · exact hfb
    · exact hdm
    · show (if b = b then ((F.fd b).1, (F.fd b).1.length) else F.fd b).1.length = 17
      rw [if_pos rfl]
      exact h17⟩
  have HLI : Aside0 (∀ (W : World) (b : Nat) (F : Fs), FsAt F 2 W → F.fb = w.heap.size + 2 → F.dm = upd nob 3 b → Calls Tryd.prog 15 #[.pointer (some ⟨w.heap.size + 2, 0, none⟩)] W fun e w' => ∃ R c, e = .returned (.slice R 1 c) ∧ Below W.heap.size W w') := ⟨fun W b F hF hfb hdm => by
    have h1 := list_c hF
    rw [hfb] at h1
    refine h1.mono fun e w' ⟨R, g, n, c, ss, he, _, _, _, _, _, hn, hb⟩ => ⟨R, c, ?_, hb⟩
    rw [he, hn 3 b hdm]⟩
  have HU : Aside0 (∀ (W : World) (b : Nat) (F : Fs), FsAt F 2 W → F.fb = w.heap.size + 2 → F.dm = upd nob 3 b → (F.fd b).1.length = 17 → Calls Tryd.prog 16 #[.pointer (some ⟨w.heap.size + 2, 0, none⟩)] W fun e w' => e = .returned (.int .i64 17) ∧ Below W.heap.size W w') := ⟨fun W b F hF hfb hdm h17 => by
    have h1 := used_c hF
    rw [hfb] at h1
    refine h1.mono fun e w' ⟨u, he, hn, hb⟩ => ⟨?_, hb⟩
    rw [he, hn 3 b hdm, h17]
    rfl⟩
  have HN := Aside0.mk (new_c (w := w) (room := 1000) (by omega))
  go_enter Tryd.func5, Tryd.ntmps5
  go_wp2_with (first
    | (go_at_call 4; refine HN.out.mono ?_; rintro e w1 ⟨rfl, hf1, hb1⟩)
    | (go_at_call 7; refine (HS.out _ hf1).mono ?_; rintro e w2 ⟨l, b, F2, rfl, hl2, hf2, hk2, hs2⟩)
    | (go_at_call 9; refine (HA.out _ _ _ _ hl2 hf2 hs2).mono ?_; rintro e w3 ⟨F3, rfl, hf3, hk3, hl3, hfb3, hlo3, hdm3, hpl3, h173⟩
       have H3 := Aside0.mk (And.intro hfb3 (And.intro hlo3 (And.intro hdm3 (And.intro hpl3 h173))))
       clear hfb3 hlo3 hdm3 hpl3 h173)
    | (go_at_call 10; refine (HY.out _ _ _ _ hl3 hf3 H3.out.1 H3.out.2.1 H3.out.2.2.1 H3.out.2.2.2.1 H3.out.2.2.2.2).mono ?_; rintro e w4 ⟨F4, rfl, hf4, hk4, hfb4, hdm4, h174⟩
       have H4 := Aside0.mk (And.intro hfb4 (And.intro hdm4 h174))
       clear hfb4 hdm4 h174)
    | (go_at_call 15; refine (HLI.out _ _ _ hf4 H4.out.1 H4.out.2.1).mono ?_; rintro e w5 ⟨R5, c5, rfl, hb5⟩)
    | (go_at_call 16; refine (HU.out _ _ _ (hf4.below hb5) H4.out.1 H4.out.2.1 H4.out.2.2).mono ?_; rintro e w6 ⟨rfl, hb6⟩)
    | fail)
  go_ret
  have k4 := ((hb1.trans hk2.be).trans hk3.be).trans hk4.be
  have k5 := k4.trans (hb5.mono k4.size)
  exact ⟨rfl, k5.trans (hb6.mono k5.size)⟩
end Go.Proofs.YtnmiipcoojijiaaDoor.Top
