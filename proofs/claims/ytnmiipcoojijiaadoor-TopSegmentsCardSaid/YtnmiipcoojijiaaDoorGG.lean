/-
  slices.Sort at a short row of texts: what it holds stays; conditions: those that each theorem states.
-/
import Derived.Test.YtnmiipcoojijiaaDoorGF
namespace Go.Proofs.YtnmiipcoojijiaaDoor.Top
set_option linter.unusedSimpArgs false
set_option linter.unusedVariables false
open Go.RowKit Go.Proofs.YtnmiipcoojijiaaDoorW.PrintWords Go.Proofs.YtnmiipcoojijiaaDoorW.PrintLast Go.Proofs.YtnmiipcoojijiaaDoorW.PrintMore Go.Proofs.YtnmiipcoojijiaaDoor.Plain Go.Proofs.YtnmiipcoojijiaaDoor.Fns Go.Maps
set_option maxRecDepth 100000 in
theorem len64_c {w : World} {n : Nat} (hn : n ≤ 12) : Calls Tryd.prog 71 #[.int .u64 n] w fun e w' => (∃ z : Int, e = .returned (.int .i64 z)) ∧ Below w.heap.size w w' := by
  have h : n = 0 ∨ n = 1 ∨ n = 2 ∨ n = 3 ∨ n = 4 ∨ n = 5 ∨ n = 6 ∨ n = 7 ∨ n = 8 ∨ n = 9 ∨ n = 10 ∨ n = 11 ∨ n = 12 := by omega
  rcases h with rfl | rfl | rfl | rfl | rfl | rfl | rfl | rfl | rfl | rfl | rfl | rfl | rfl
  all_goals
    go_enter Tryd.func71, Tryd.ntmps71
    go_wp2_with fail
    go_ret
    exact ⟨⟨_, rfl⟩, Below.refl _ _⟩
theorem len_c {w : World} {n : Nat} (hn : n ≤ 12) : Calls Tryd.prog 51 #[.int .u64 n] w fun e w' => (∃ z : Int, e = .returned (.int .i64 z)) ∧ Below w.heap.size w w' := by
  go_enter Tryd.func51, Tryd.ntmps51
  go_wp2_with (first | (go_at_call 71; refine (len64_c hn).mono ?_; rintro e w2 ⟨⟨z, rfl⟩, hb⟩) | fail)
  go_ret
  exact ⟨⟨_, rfl⟩, hb⟩
theorem nan_c {w : World} (x : ByteArray) : Calls Tryd.prog 82 #[.string x] w fun e w' => e = .returned (.bool false) ∧ w' = w := by
  go_enter Tryd.func82, Tryd.ntmps82
  go_wp2_with fail
  go_ret
  exact ⟨by simp, rfl⟩
theorem cless_c {w : World} (x y : ByteArray) : Calls Tryd.prog 67 #[.string x, .string y] w fun e w' => e = .returned (.bool (Op.bytesLess x.toList y.toList)) ∧ w' = w := by
  go_enter Tryd.func67, Tryd.ntmps67
  go_wp2_with (first | (go_at_call 82; refine (nan_c _).mono ?_; rintro e w2 ⟨rfl, rfl⟩) | fail)
  go_ret
  exact ⟨by simp, rfl⟩
/-- A row of texts in a block. -/
def SR (W : World) (g : Nat) (ss : List ByteArray) : Prop := 0 < ss.length → ∃ cs, W.heap[g]? = some (.cells cs 9 (0, 0)) ∧ ∀ j (hj : j < ss.length), cs[j]? = some (.string ss[j])
theorem SR.cell {W : World} {g : Nat} {ss : List ByteArray} (h : SR W g ss) {j : Nat} (hj : j < ss.length) : W.cell? ⟨g, j, none⟩ = some (.string ss[j]) ∧ W.frozen? ⟨g, j, none⟩ = false := by
  obtain ⟨cs, h1, h2⟩ := h (by omega)
  exact ⟨(blk_cell h1 j).trans (h2 j hj), blk_frozen h1 j⟩
theorem SR.set {W : World} {g : Nat} {ss : List ByteArray} (h : SR W g ss) (i : Nat) (s : ByteArray) : SR (W.setCell ⟨g, i, none⟩ (.string s)) g (ss.set i s) := fun h0 => by
  obtain ⟨cs, h1, h2⟩ := h (by simpa using h0)
  refine ⟨_, blk_put h1 i (.string s) rfl, fun j hj => ?_⟩
  have hj' : j < ss.length := by simpa using hj
  rw [Array.getElem?_setIfInBounds]
  by_cases e : i = j
  · subst e
    have hc := (Array.getElem?_eq_some_iff.1 (h2 i hj')).1
    simp [hc]
  · rw [if_neg e, h2 j hj', List.getElem_set_ne e]
theorem SR.move {W W1 : World} {g : Nat} {ss : List ByteArray} (h : SR W g ss) (he : W1.heap[g]? = W.heap[g]?) : SR W1 g ss := fun h0 => by
  obtain ⟨cs, h1, h2⟩ := h h0
  exact ⟨cs, he.trans h1, h2⟩
/-- What sorting keeps. -/
def SI (P : ByteArray → Prop) (g n : Nat) (w W : World) : Prop := ∃ ss, SR W g ss ∧ ss.length = n ∧ (∀ s ∈ ss, P s) ∧ w.grownBy W (some g)
theorem grown_drew {w W : World} {r : Option Nat} (h : w.grownBy W r) : w.grownBy W.drew r := ⟨h.os, h.tape, h.output, h.size, h.block⟩
theorem grown_set {w W : World} {g : Nat} (h : w.grownBy W (some g)) (i : Nat) (v : Value) : w.grownBy (W.setCell ⟨g, i, none⟩ v) (some g) :=
  ⟨h.os, h.tape, h.output, by simpa using h.size, fun k hk hne => (Below.heap_setCell _ _ _ _ (fun e => hne (by rw [show k = g from e]))).trans (h.block k hk hne)⟩
theorem SI.swap {P : ByteArray → Prop} {g n i j : Nat} {w W : World} {s t : ByteArray} (h : SI P g n w W) (hs : P s) (ht : P t) : SI P g n w ((W.setCell ⟨g, i, none⟩ (.string s)).setCell ⟨g, j, none⟩ (.string t)) := by
  obtain ⟨ss, h1, h2, h3, h4⟩ := h
  refine ⟨_, (h1.set i s).set j t, by simpa using h2, fun x hx => ?_, grown_set (grown_set h4 _ _) _ _⟩
  rcases List.mem_or_eq_of_mem_set hx with hx | rfl
  · rcases List.mem_or_eq_of_mem_set hx with hx | rfl
    · exact h3 x hx
    · exact hs
  · exact ht
theorem SI.drew {P : ByteArray → Prop} {g n : Nat} {w W : World} (h : SI P g n w W) : SI P g n w W.drew := by
  obtain ⟨ss, h1, h2, h3, h4⟩ := h
  exact ⟨ss, h1.move rfl, h2, h3, grown_drew h4⟩
theorem SI.drewN {P : ByteArray → Prop} {g n : Nat} {w W : World} (h : SI P g n w W) (k : Nat) : SI P g n w (W.drewN k) := by
  obtain ⟨ss, h1, h2, h3, h4⟩ := h
  exact ⟨ss, h1.move rfl, h2, h3, ⟨h4.os, h4.tape, h4.output, h4.size, h4.block⟩⟩
theorem SI.cells {P : ByteArray → Prop} {g n : Nat} {w W : World} (h : SI P g n w W) {j : Nat} (hj : j < n) : ∃ s, P s ∧ W.cell? ⟨g, j, none⟩ = some (.string s) ∧ W.frozen? ⟨g, j, none⟩ = false := by
  obtain ⟨ss, h1, h2, h3, h4⟩ := h
  exact ⟨ss[j]'(by omega), h3 _ (List.getElem_mem _), h1.cell (by omega)⟩
set_option maxRecDepth 100000 in
set_option maxHeartbeats 8000000 in
theorem insort_c {P : ByteArray → Prop} {w : World} {g n c : Nat} {R : Option Addr} (hR : 0 < n → R = some ⟨g, 0, none⟩) (h : SI P g n w w) (hn : n ≤ 12) :
    Calls Tryd.prog 61 #[.slice R n c, .int .i64 0, .int .i64 n] w fun e w' => e = .returned (.tuple #[]) ∧ SI P g n w w' := by
  have HR := Aside0.mk hR
  have H := Aside0.mk h
  clear hR h
  go_enter Tryd.func61, Tryd.ntmps61
  go_wp2_with fail
  go_loopw [6] (fun i wr => ∃ (j : Nat), i = .int .i64 (j + 1 : Nat) ∧ j ≤ n ∧ Aside0 (SI P g n w wr)) (fun i _ => n + 1 - (intOf i).toNat)
  case atStart => exact ⟨0, rfl, by omega, H⟩
  case round =>
    obtain ⟨j, rfl, hj, HB⟩ := hrel
    by_cases hlt : j + 1 < n
    · have t1 : decide (((j + 1 : Nat) : Int) < (n : Int)) = true := decide_eq_true (by omega)
      have t2 : decide (j + 1 < n) = true := decide_eq_true (by omega)
      obtain rfl := HR.out (by omega)
      go_wp2_with fail
      go_loopw [7] (fun i wq => ∃ (z : Int), i = .int .i64 z ∧ (0 ≤ z ∧ z < (n : Int)) ∧ Aside0 (SI P g n w wq)) (fun i _ => (intOf i).toNat)
      case atStart => exact ⟨((j + 1 : Nat) : Int), rfl, by omega, HB⟩
      case round =>
        clear HB
        obtain ⟨z, rfl, ⟨hz, hzn⟩, HB⟩ := hrel
        by_cases h0 : 0 < z
        · have t3 : decide (0 < z) = true := decide_eq_true h0
          obtain ⟨y, hy⟩ : ∃ y, y = z - 1 := ⟨_, rfl⟩
          obtain ⟨s1, p1, x1, f1⟩ := HB.out.cells (j := z.toNat) (by omega)
          obtain ⟨s0, p0, x0, f0⟩ := HB.out.cells (j := y.toNat) (by omega)
          have e1 : IntKind.i64.wrap (z - 1) = y := by rw [IntKind.wrap_i64]; omega
          have e2 : wrap64 (z - 1) = y := by unfold wrap64; omega
          have n1 : (⟨g, z.toNat, none⟩ : Addr) ≠ ⟨g, y.toNat, none⟩ := fun e => by
            have := congrArg Addr.off e
            simp only at this
            omega
          have g0 : 0 ≤ y := by omega
          have g1 : y < (n : Int) := by omega
          have hm : y.toNat < z.toNat := by omega
          have HZ := Aside0.mk (And.intro hm (And.intro g0 g1))
          have HPP := Aside0.mk (And.intro p0 p1)
          clear hm p0 p1 hy
          replace hz := eq_true hz
          replace hzn := eq_true hzn
          replace g0 := eq_true g0
          replace g1 := eq_true g1
          obtain ⟨lb, hlb⟩ : ∃ b, b = Op.bytesLess s1.toList s0.toList := ⟨_, rfl⟩
          have HC := Aside0.mk (fun w : World => cless_c (w := w) s1 s0)
          rw [← hlb] at HC
          clear hlb
          cases lb with
          | false =>
            go_wp2_with fail
            go_quiet (first | (go_at_call 67; refine Calls.quiet_of_same (HC.out _)))
            go_wp2_with fail
            go_roundw
            case rel => exact ⟨j + 1, by go_num, by omega, ⟨HB.out.drewN _⟩⟩
            case measure => simp [intOf]; omega
          | true =>
            go_wp2_with fail
            go_quiet (first | (go_at_call 67; refine Calls.quiet_of_same (HC.out _)))
            go_wp2_with fail
            go_region_with (fail)
            all_goals
              go_wp2_with fail
              go_roundw
              case rel => exact ⟨y, rfl, HZ.out.2, ⟨by first | exact (HB.out.drewN _).swap HPP.out.1 HPP.out.2 | exact (HB.out.drewN _).swap HPP.out.2 HPP.out.1⟩⟩
              case measure => have := HZ.out; simp [intOf]; omega
        · have t3 : decide (0 < z) = false := decide_eq_false h0
          go_wp2_with fail
          go_quiet (fail)
          go_wp2_with fail
          go_roundw
          case rel => exact ⟨j + 1, by go_num, by omega, ⟨HB.out.drewN _⟩⟩
          case measure => simp [intOf]; omega
    · have t1 : decide (((j + 1 : Nat) : Int) < (n : Int)) = false := decide_eq_false (by omega)
      have t2 : decide (j + 1 < n) = false := decide_eq_false (by omega)
      go_wp2_with fail
      exact bodyPost_end (by kernel_rfl) rfl ⟨rfl, HB.out⟩
set_option maxRecDepth 100000 in
theorem pdq_c {P : ByteArray → Prop} {w : World} {g n c : Nat} {R : Option Addr} {z : Int} (hR : 0 < n → R = some ⟨g, 0, none⟩) (h : SI P g n w w) (hn : n ≤ 12) :
    Calls Tryd.prog 50 #[.slice R n c, .int .i64 0, .int .i64 n, .int .i64 z] w fun e w' => e = .returned (.tuple #[]) ∧ SI P g n w w' := by
  have HI := Aside0.mk (insort_c (c := c) hR h hn)
  have e1 : IntKind.i64.wrap ((n : Int) - 0) = (n : Int) := by rw [IntKind.wrap_i64]; omega
  have t1 : decide ((n : Int) ≤ 12) = true := decide_eq_true (by omega)
  have t2 : decide (n ≤ 12) = true := decide_eq_true hn
  clear hR h
  go_enter Tryd.func50, Tryd.ntmps50
  go_wp2_with fail
  go_loopw [1, 2] (fun a e wr => a = .int .i64 0 ∧ e = .int .i64 n ∧ wr = w) (fun _ _ _ => 0)
  case atStart => exact ⟨rfl, rfl, rfl⟩
  case round =>
    obtain ⟨rfl, rfl, rfl⟩ := hrel
    go_wp2_with (first | (go_at_call 61; refine HI.out.mono ?_; rintro e w2 ⟨rfl, hb⟩) | fail)
    exact bodyPost_ret (by kernel_rfl) rfl ⟨rfl, hb⟩
theorem SI.start {P : ByteArray → Prop} {g n : Nat} {w W : World} (h : SI P g n w w) (hb : Below w.heap.size w W) : SI P g n W W := by
  obtain ⟨ss, h1, h2, h3, h4⟩ := h
  refine ⟨ss, fun h0 => ?_, h2, h3, ⟨rfl, rfl, rfl, Nat.le_refl _, fun _ _ _ => rfl⟩⟩
  obtain ⟨cs, hc, hcs⟩ := h1 h0
  exact ⟨cs, (hb.block g (blk_lt hc)).trans hc, hcs⟩
theorem SI.after {P : ByteArray → Prop} {g n : Nat} {w W W2 : World} (h : SI P g n W W2) (hb : Below w.heap.size w W) : SI P g n w W2 := by
  obtain ⟨ss, h1, h2, h3, h4⟩ := h
  exact ⟨ss, h1, h2, h3, ⟨h4.os.trans hb.os, h4.tape.trans hb.tape, h4.output.trans hb.output, Nat.le_trans hb.size h4.size, fun k hk hne => (h4.block k (Nat.lt_of_lt_of_le hk hb.size) hne).trans (hb.block k hk)⟩⟩
set_option maxRecDepth 100000 in
/-- A row of texts that is sorted holds what it held; no other block turns. -/
theorem sort_c {P : ByteArray → Prop} {w : World} {g n c : Nat} {R : Option Addr} (hR : 0 < n → R = some ⟨g, 0, none⟩) (h : SI P g n w w) (hn : n ≤ 12) :
    Calls Tryd.prog 31 #[.slice R n c] w fun e w' => e = .returned (.tuple #[]) ∧ SI P g n w w' := by
  have HR := Aside0.mk hR
  have H := Aside0.mk h
  clear hR h
  go_enter Tryd.func31, Tryd.ntmps31
  go_wp2_with (first
    | (go_at_call 51; refine (len_c hn).mono ?_; rintro e w2 ⟨⟨z, rfl⟩, hb⟩)
    | (go_at_call 50; refine (pdq_c HR.out (H.out.start hb) hn).mono ?_; rintro e w3 ⟨rfl, hb3⟩)
    | fail)
  exact bodyPost_end (by kernel_rfl) rfl ⟨rfl, hb3.after hb⟩
/-- How many names are still to come. -/
def rem (l : Lit → Bool) : Nat := (l (segK 1)).toNat + (l (segK 2)).toNat + (l (segK 3)).toNat + (l (segK 4)).toNat + (l (segK 5)).toNat + (l (segK 6)).toNat + (l (segK 7)).toNat
theorem toNat_le (b : Bool) : b.toNat ≤ 1 := by cases b <;> simp
theorem rem_le (l : Lit → Bool) : rem l ≤ 7 := by
  have h1 := toNat_le (l (segK 1))
  have h2 := toNat_le (l (segK 2))
  have h3 := toNat_le (l (segK 3))
  have h4 := toNat_le (l (segK 4))
  have h5 := toNat_le (l (segK 5))
  have h6 := toNat_le (l (segK 6))
  have h7 := toNat_le (l (segK 7))
  unfold rem
  omega
theorem rem_none {l : Lit → Bool} (h : ∀ k, l k = false) : rem l = 0 := by
  unfold rem
  simp [h]
theorem sameK_ne {n m : Nat} (h : 1 ≤ n) (h2 : n ≤ 7) (h3 : 1 ≤ m) (h4 : m ≤ 7) (hne : n ≠ m) : (segK n).sameKey (segK m) = false := sameKey_ne fun e => hne (segK_ne h h2 h3 h4 e)
theorem rem_step {l : Lit → Bool} {j : Nat} (h1 : 1 ≤ j) (h2 : j ≤ 7) (hl : l (segK j) = true) : rem (fun z => l z && !z.sameKey (segK j)) + 1 = rem l := by
  have key : ∀ i, 1 ≤ i → i ≤ 7 → ((fun z => l z && !z.sameKey (segK j)) (segK i)) = if i = j then false else l (segK i) := fun i a b => by
    show (l (segK i) && !(segK i).sameKey (segK j)) = _
    by_cases e : i = j
    · subst e
      rw [sameK, if_pos rfl]
      simp
    · rw [sameK_ne a b h1 h2 e, if_neg e]
      simp
  unfold rem
  rw [key 1 (by omega) (by omega), key 2 (by omega) (by omega), key 3 (by omega) (by omega), key 4 (by omega) (by omega), key 5 (by omega) (by omega), key 6 (by omega) (by omega), key 7 (by omega) (by omega)]
  obtain rfl | rfl | rfl | rfl | rfl | rfl | rfl : j = 1 ∨ j = 2 ∨ j = 3 ∨ j = 4 ∨ j = 5 ∨ j = 6 ∨ j = 7 := by omega
  all_goals
    simp [hl]
    try omega
theorem rem_single {D : DataW Value} {n b : Nat} (h : NamesD D (upd nob n b)) : rem (has D) = 1 := by
  obtain ⟨h1, h2, h3, _⟩ := h.all n b (upd_same _ _ _)
  have key : ∀ i, 1 ≤ i → i ≤ 7 → has D (segK i) = decide (i = n) := fun i a c => by
    by_cases e : i = n
    · subst e
      rw [h3]
      simp
    · cases hh : has D (segK i) with
      | false => simp [e]
      | true =>
        obtain ⟨j, f, hj, ek⟩ := h.only _ hh
        rcases upd_some hj with ⟨rfl, _⟩ | ⟨_, hj⟩
        · exact absurd (segK_ne a c h1 h2 ek) e
        · cases hj
  unfold rem
  rw [key 1 (by omega) (by omega), key 2 (by omega) (by omega), key 3 (by omega) (by omega), key 4 (by omega) (by omega), key 5 (by omega) (by omega), key 6 (by omega) (by omega), key 7 (by omega) (by omega)]
  obtain rfl | rfl | rfl | rfl | rfl | rfl | rfl : n = 1 ∨ n = 2 ∨ n = 3 ∨ n = 4 ∨ n = 5 ∨ n = 6 ∨ n = 7 := by omega
  all_goals rfl
theorem info_str : (Tryd.prog.info? 9).map (fun i => (i.zero, i.size, i.bytes)) = some (some (.string ⟨#[]⟩), 1, 16) := by kernel_rfl
/-- Is it a name of the directory? -/
def NameOf (F : Fs) (s : ByteArray) : Prop := ∃ n b, F.dm n = some b ∧ s = segS n
/-- What the loop over the names holds. -/
structure LiI (F : Fs) (D : DataW Value) (q rb : Nat) (w : World) (v : Value) (ss : List ByteArray) (left : Lit → Bool) (cnt : Nat) (W : World) : Prop where
  rg : W.ranges Tryd.prog 9 Rp F.db rb q D left cnt
  be : Below w.heap.size w W
  own : W.ownsRow w.heap.size 9 1 v ss.length (ss.map Value.string)
  nm : ∀ s ∈ ss, NameOf F s
  sz : ss.length + rem left = rem (has D)
/-- What List gives. -/
def ListR (F : Fs) (w : World) (e : Ending) (w' : World) : Prop :=
  ∃ (R : Option Addr) (g n c : Nat) (ss : List ByteArray), e = .returned (.slice R n c) ∧ (0 < n → R = some ⟨g, 0, none⟩) ∧ SR w' g ss ∧ ss.length = n ∧ (∀ s ∈ ss, NameOf F s) ∧ n ≤ 7 ∧ (∀ j b, F.dm = upd nob j b → n = 1) ∧ Below w.heap.size w w'
theorem own_strs {W : World} {base n : Nat} {v : Value} {ss : List ByteArray} (h : W.ownsRow base 9 1 v n (ss.map Value.string)) (hn : n = ss.length) (hbz : base ≤ W.heap.size) : ∃ (R : Option Addr) (g c : Nat), v = .slice R n c ∧ (0 < n → R = some ⟨g, 0, none⟩) ∧ SR W g ss ∧ base ≤ g := by
  subst hn
  rcases h.2 with ⟨rfl, h0⟩ | ⟨g, cap, cur, rfl, hb, hg, hnc, _, hsz, ht⟩
  · exact ⟨none, W.heap.size, 0, by rw [h0], fun h => absurd h (by omega), fun h => absurd h (by omega), hbz⟩
  · refine ⟨some ⟨g, 0, none⟩, g, cap, rfl, fun _ => rfl, fun _ => ⟨cur, hg, fun j hj => ?_⟩, hb⟩
    have : (cur.toList.take (ss.length * 1))[j]? = some (.string ss[j]) := by rw [ht]; simp [hj]
    rw [List.getElem?_take_of_lt (by omega)] at this
    simpa using this
theorem LiI.own_ne {F : Fs} {D : DataW Value} {q rb : Nat} {w W : World} {v : Value} {ss : List ByteArray} {left : Lit → Bool} {cnt : Nat} (h : LiI F D q rb w v ss left cnt W) (hdb : F.db < w.heap.size) : some F.db ≠ v.ownBlock ∧ some rb ≠ v.ownBlock := by
  refine ⟨fun e => ?_, fun e => ?_⟩
  · have := (h.own.lt _ e.symm).1
    omega
  · obtain ⟨cs, hc⟩ := own_typed h.own _ e.symm
    obtain ⟨es, clock, since, seen, c0, _, _, _, _, hr, _⟩ := h.rg
    rw [hr] at hc
    cases hc
set_option maxRecDepth 100000 in
set_option maxHeartbeats 4000000 in
theorem list_c {w : World} {F : Fs} {q : Nat} (h : FsAt F q w) : Calls Tryd.prog 15 #[.pointer (some ⟨F.fb, 0, none⟩)] w (ListR F w) := by
  have HM : Aside0 (Calls Tryd.prog 17 #[.pointer (some ⟨F.fb, 0, none⟩)] w fun e w' => e = .returned (.bool true) ∧ Below w.heap.size w w') := by
    obtain ⟨vp, hb, hpd⟩ := h.box
    exact ⟨made_c hb h.hr⟩
  have HB : Aside0 (∀ W, Below w.heap.size w W → W.cell? ⟨F.fb, 1, none⟩ = some (.map (some F.db))) := by
    obtain ⟨vp, hb, hpd⟩ := h.box
    exact ⟨fun W hB => (blk_cell ((hB.block _ (blk_lt hb.b)).trans hb.b) 1).trans rfl⟩
  have H := Aside0.mk h
  have HDL := Aside0.mk h.dmp.lt
  obtain ⟨D, hO, hD⟩ := h.dmp
  have HD := Aside0.mk hD
  have HO := Aside0.mk hO
  clear h hO hD
  go_enter Tryd.func15, Tryd.ntmps15
  go_wp2_with (first
    | (go_at_call 17; refine HM.out.mono ?_; rintro e w2 ⟨rfl, hb2⟩
       have c1 := HB.out w2 hb2)
    | (at_range; refine wpList_range_own _ rfl _ 47 rfl 9 66 (string_keyed Tryd.underlying9) Tryd.underlying47 Rp F.db q D rfl (HO.out.kept (row := none) ⟨hb2.os, hb2.tape, hb2.output, hb2.size, fun i hi _ => hb2.block i hi⟩ (by simp)) ?_; intro w0 hrg0 hg0 hs0)
    | fail)
  go_frame
  have hb0 : Below w.heap.size w w0 := hb2.grown hg0 hb2.size (fun k hk => by cases hk)
  generalize hrr : w2.heap.size = rb at *
  have hrb : w.heap.size ≤ rb := by rw [← hrr]; exact hb2.size
  have HI0 : Aside0 (LiI F D q rb w (.slice none 0 0) [] (has D) (Maps.size D) w0) := ⟨⟨hrg0, hb0, World.ownsRow_nil _ _ _ _, fun s hs => (by cases hs), Nat.zero_add _⟩⟩
  clear hrr c1 hb2 hg0 hrg0 hb0 hs0
  go_loopw [3] (fun i wr => ∃ (A : Option Addr) (c : Nat) (ss : List ByteArray) (left : Lit → Bool) (cnt : Nat), i = .slice A ss.length c ∧ Aside0 (LiI F D q rb w (.slice A ss.length c) ss left cnt wr)) (fun _ wr => wr.rangeLeft F.db rb)
  case atStart => exact ⟨none, 0, [], _, _, rfl, HI0⟩
  case round =>
    clear HI0
    obtain ⟨A, c, ss, left, cnt, rfl, HI⟩ := hrel
    go_wp2_with (first
      | (at_next; refine wpList_next_seg _ rfl _ rfl F.db rb q D F.dm left cnt HD.out rfl HI.out.rg ?_ ?_)
      | fail)
    · intro hc hl
      have hrem := HI.out.sz
      rw [rem_none hl] at hrem
      have h7 := rem_le (has D)
      obtain ⟨R, g, c', hRv, hR, hS, hg⟩ := own_strs HI.out.own rfl HI.out.be.size
      obtain ⟨rfl, rfl⟩ : A = R ∧ c = c' := by injection hRv with e1 e2 e3; exact ⟨e1, e3⟩
      clear hRv
      have hsi : SI (NameOf F) g ss.length wr wr := ⟨ss, hS, rfl, HI.out.nm, ⟨rfl, rfl, rfl, Nat.le_refl _, fun _ _ _ => rfl⟩⟩
      have HS := Aside0.mk (sort_c (c := c) hR hsi (by omega))
      generalize hn : ss.length = n at *
      have HN := Aside0.mk (And.intro hR (And.intro hg (And.intro hrem (And.intro hn h7))))
      clear hR hg hrem hsi hS hn h7
      go_wp2_with (first
        | (go_at_call 31; refine HS.out.mono ?_; rintro e w5 ⟨rfl, hsi5⟩)
        | fail)
      go_ret
      obtain ⟨ss5, s1, s2, s3, s4⟩ := hsi5
      refine ⟨A, g, n, c, ss5, rfl, HN.out.1, s1, s2, s3, by have := HN.out.2.2.1; have := HN.out.2.2.2.2; omega, fun j b he => ?_, ?_⟩
      · have hD1 := HD.out
        rw [he] at hD1
        have := rem_single hD1
        have := HN.out.2.2.1
        omega
      · exact HI.out.be.grown s4 HI.out.be.size (fun k hk => by cases hk; exact HN.out.2.1)
    · intro j f w3 cnt3 hj hlj hrg hlt hgr hsz hen
      have hb3 : Below w.heap.size w w3 := HI.out.be.grown hgr HI.out.be.size (fun k hk => by cases hk; exact hrb)
      have hne := HI.out.own_ne HDL.out
      have hown3 : w3.ownsRow w.heap.size 9 1 (.slice A ss.length c) ss.length (ss.map Value.string) := HI.out.own.kept hgr (by
        cases hv : (Value.slice A ss.length c).ownBlock with
        | none => exact .inl rfl
        | some k => exact .inr (fun e => hne.2 (by rw [hv, e])))
      obtain ⟨hj1, hj7, _, _⟩ := HD.out.all j f hj
      have HN := Aside0.mk (And.intro hrg (And.intro hb3 (And.intro (rem_step hj1 hj7 hlj) (And.intro hj hlt))))
      have HLT := Aside0.mk (And.intro hlt hrg.left_eq)
      have HLE := Aside0.mk HI.out.rg.left_eq
      have hrl := rem_le left
      have hsl : ss.length ≤ 7 := by have := HI.out.sz; have := rem_le (has D); omega
      clear hrg hb3 hj hlj hgr hsz hlt hrl
      obtain ⟨i0, hi, hzz⟩ := Option.map_eq_some_iff.1 info_str
      simp only [Prod.mk.injEq] at hzz
      obtain ⟨hz0, hz1, hz2⟩ := hzz
      go_wp2_with (first
        | (at_builtin; refine wpList_append_own_at _ rfl (.tmp 17) (.tmp 19) 51 rfl w.heap.size 9 i0 (.string ⟨#[]⟩) 1 16 Tryd.underlying51 hi hz0 hz1 hz2 rfl (by decide) (.slice A ss.length c) ss.length (ss.map Value.string) rfl (hown3.alloc _) ⟨w3.heap.size, 0, none⟩ 1 1 [.string (segS j)] rfl rfl (cell_one_new _ _ _) (fun u hu => by (simp at hu; subst hu; rfl)) (by simp only [maxLen]; omega) (by omega) (by simp [World.size_alloc]; have := HN.out.2.1.size; omega) ?_; intro v' w4 hown' hg4 hnil4 hat4)
        | fail)
      have hsz4 : w.heap.size ≤ w4.heap.size := Nat.le_trans HN.out.2.1.size (by have := hg4.size; simp [World.size_alloc] at this; omega)
      have hl4 : ss.length + 1 = (ss ++ [segS j]).length := by simp
      have ho4 : w4.ownsRow w.heap.size 9 1 v' (ss.length + 1) ((ss ++ [segS j]).map Value.string) := by rw [List.map_append]; exact hown'
      obtain ⟨R', g', c', rfl, _⟩ := own_strs ho4 hl4 hsz4
      rw [hl4] at ho4
      have hrg4 := (HN.out.1.alloc (.cells #[.string (segS j)] 9)).kept hg4 hne.1 hne.2
      have hI4 : LiI F D q rb w (.slice R' (ss ++ [segS j]).length c') (ss ++ [segS j]) (fun z => left z && !z.sameKey (segK j)) cnt3 w4 := ⟨hrg4, (HN.out.2.1.alloc HN.out.2.1.size _).grown hg4 (by rw [World.size_alloc]; have := HN.out.2.1.size; omega) (fun k hk => (HI.out.own.lt k hk).1), by rw [← hl4] at ho4 ⊢; exact ho4, fun s hs => by
        rcases List.mem_append.1 hs with hs | hs
        · exact HI.out.nm s hs
        · rw [List.mem_singleton.1 hs]
          exact ⟨j, f, HN.out.2.2.2.1, rfl⟩, by
        have h1 := HI.out.sz
        have h2 := HN.out.2.2.1
        rw [← hl4]
        omega⟩
      refine ⟨⟨R', c', ss ++ [segS j], _, cnt3, by rw [← hl4], ⟨hI4⟩⟩, ?_⟩
      rw [hrg4.left_eq, HLE.out]
      exact HLT.out.1
end Go.Proofs.YtnmiipcoojijiaaDoor.Top
