/-
  slices.Chunk: a row in parts of sixteen, as a sequence; conditions: those that each theorem states.
-/
import Derived.Test.YthabkdbhjioalaaGM
namespace Go.Proofs.Ythabkdbhjioalaa.Top
set_option linter.unusedSimpArgs false
set_option linter.unusedVariables false
open Go.RowKit Go.Proofs.YthabkdbhjioalaaW.PrintWords Go.Proofs.YthabkdbhjioalaaW.PrintLast Go.Proofs.YthabkdbhjioalaaW.PrintMore Go.Proofs.Ythabkdbhjioalaa.Plain Go.Proofs.Ythabkdbhjioalaa.Fns
/-- The boxes of the row and of the number are kept. -/
def Kc (A B : World) : Prop := A.heap.size ≤ B.heap.size ∧ ∀ (k : Nat) (cs : Array Value) (e : TypeId), A.heap[k]? = some (.cells cs e (0, 0)) → (e = 22 ∨ e = 3) → B.heap[k]? = A.heap[k]?
theorem Kc.trans {A B C : World} (h : Kc A B) (k : Kc B C) : Kc A C := ⟨Nat.le_trans h.1 k.1, fun b cs e hb he => (k.2 b cs e ((h.2 b cs e hb he).trans hb) he).trans (h.2 b cs e hb he)⟩
theorem Kc.of_below {A B : World} (h : Below A.heap.size A B) : Kc A B := ⟨h.size, fun b cs e hb _ => h.block b (blk_lt hb)⟩
theorem Kc.put {W : World} {l : Nat} {o o' : Obj} (hl : W.heap[l]? = some o) (ho : o.isCells = false) : Kc W (W.putObj l o') := ⟨Nat.le_of_eq (put_size W l o').symm, fun k cs e hk _ => put_far hl ho hk⟩
theorem chunk_c (w : World) (R : Option Addr) (m c : Nat) : Calls Try.prog 29 #[.slice R m c, .int .i64 16] w fun e w' => e = .returned (.func (.func 49) #[] #[.pointer (some ⟨w.heap.size, 0, none⟩), .pointer (some ⟨w.heap.size + 1, 0, none⟩)]) ∧ w' = (w.alloc (.cells #[.slice R m c] 22)).alloc (.cells #[.int .i64 16] 3) := by
  go_enter Try.func29, Try.ntmps29
  go_wp2
  go_ret
  exact ⟨rfl, rfl⟩
theorem elem_en : Try.prog.elem 22 = 36 := by simp [Program.elem, Try.underlying22]
theorem under_en : Try.prog.underlying 22 = some (.slice (Try.prog.elem 22)) := by rw [elem_en]; exact Try.underlying22
theorem size_en (W : World) : (sizeOf (Try.prog.elem 22)).run Try.prog W = .ok 7 W := by
  obtain ⟨i0, hi, hzz⟩ := Option.map_eq_some_iff.1 info7
  simp only [Prod.mk.injEq] at hzz
  rw [elem_en]
  simp [sizeOf, typeInfo, hi, hzz.2.1, Result.andThen]
theorem cut_en_lo (b L c i : Nat) (hi : i < L) (hc : L ≤ c) (W : World) :
    (Instr.slice 22 (.slice (some ⟨b, 0, none⟩) L c) (some (.int .i64 (i : Nat))) none none).run Try.prog W = .ok (.slice (some ⟨b, i * 7, none⟩) (L - i) (c - i)) W := by
  rw [run_slice_l W 22 _ L c under_en .i64 (i : Int) (by omega) (by omega), size_en]
  simp only [Result.andThen, sliced, Int.toNat_natCast]
  rw [if_neg (by omega)]
  simp [Addr.add]
  omega
theorem cut_en_lhm (b L c i n : Nat) (z : Int) (hz : z = ((i + n : Nat) : Int)) (hn : 0 < n) (hi : i + n ≤ L) (hc : L ≤ c) (W : World) :
    (Instr.slice 22 (.slice (some ⟨b, 0, none⟩) L c) (some (.int .i64 (i : Nat))) (some (.int .i64 z)) (some (.int .i64 z))).run Try.prog W = .ok (.slice (some ⟨b, i * 7, none⟩) n n) W := by
  subst hz
  rw [run_slice_lhm W 22 _ L c under_en .i64 .i64 .i64 (i : Int) ((i + n : Nat) : Int) ((i + n : Nat) : Int) (by omega) (by omega) (by omega) (by omega), size_en]
  simp only [Result.andThen, sliced, Int.toNat_natCast]
  rw [if_neg (by omega)]
  simp [Addr.add]
  omega
/-- How many entries part j has. -/
def partN (L j : Nat) : Nat := min 16 (L - 16 * j)
set_option maxRecDepth 100000 in
set_option maxHeartbeats 4000000 in
theorem chunk1 {n : Nat} (hn : 3 ≤ n) {w : World} {B1 B2 b L c : Nat} {R : Option Addr} (hRb : 0 < L → R = some ⟨b, 0, none⟩) (hc : L ≤ c) (hL : L ≤ 4096) (h1 : w.heap[B1]? = some (.cells #[.slice R L c] 22 (0, 0))) (h2 : w.heap[B2]? = some (.cells #[.int .i64 16] 3 (0, 0))) :
    SeqM Fence.wide n Try.prog 49 #[.pointer (some ⟨B1, 0, none⟩), .pointer (some ⟨B2, 0, none⟩)] (fun j : Nat => #[.slice (some ⟨b, 16 * j * 7, none⟩) (partN L j) (partN L j)]) Kc (fun A B => Below A.heap.size A B) (fun pre j _ => pre = List.range j ∧ 16 * j < L)
      (fun xs _ => ∃ j, xs = List.range j ∧ L ≤ 16 * j ∧ 16 * j < L + 16) w := fun l J Jx W hW hJ hJx hY h0 => by
  have hB := (hW.block B1 (blk_lt h1)).trans h1
  have hB2 := (hW.block B2 (blk_lt h2)).trans h2
  have hd : 1 ≤ n - 1 := by omega
  clear h1 h2 hW
  refine callsIn_of_wp Try.func49 rfl trivial ?_ rfl
  simp only [Try.ntmps49, List.size_toArray, List.length_cons, List.length_nil, Nat.reduceAdd, Nat.reduceSub, Array.replicate_succ, Array.replicate_zero, List.push_toArray, List.append_toArray, List.nil_append, List.cons_append]
  gi_wp2
  have hmx : Try.prog.follows .mixedOrders = true := by kernel_rfl
  gi_loopg [4] (L + 16) (fun m iv wr => ∃ (j : Nat), iv = .int .i64 ((16 * j : Nat) : Int) ∧ wr.heap[B1]? = some (.cells #[.slice R L c] 22 (0, 0)) ∧ wr.heap[B2]? = some (.cells #[.int .i64 16] 3 (0, 0)) ∧ J (List.range j) wr ∧ m = L + 16 - 16 * j ∧ 16 * j < L + 16)
  case atStart => exact ⟨0, rfl, hB, hB2, h0, by omega, by omega⟩
  case round =>
    obtain ⟨j, rfl, hB, hB2, hJs, rfl, hj16⟩ := hrel
    have b1 : wr.cell? ⟨B1, 0, none⟩ = some (.slice R L c) := (blk_cell hB 0).trans rfl
    have b2 : wr.cell? ⟨B2, 0, none⟩ = some (.int .i64 16) := (blk_cell hB2 0).trans rfl
    by_cases hlt : 16 * j < L
    · obtain rfl := hRb (by omega)
      obtain ⟨i, hi⟩ : ∃ i, i = 16 * j := ⟨_, rfl⟩
      rw [← hi]
      have t1 : decide ((i : Int) < (L : Int)) = true := decide_eq_true (by omega)
      have t2 : decide (i < L) = true := decide_eq_true (by omega)
      have q1 := cut_en_lo b L c i (by omega) hc
      have HI := Aside0.mk hi
      have hiL : i < L := by omega
      clear hi hlt hj16
      by_cases h16 : 16 ≤ L - i
      · have d1 : decide ((16 : Int) ≤ ((L - i : Nat) : Int)) = true := decide_eq_true (by omega)
        have d2 : decide (((L - i : Nat) : Int) < 16) = false := decide_eq_false (by omega)
        have d3 : decide (L - i < 16) = false := decide_eq_false (by omega)
        have hp : partN L j = 16 := by unfold partN; rw [← HI.out]; omega
        have q2 := cut_en_lhm b L c i (16) ((i : Int) + 16) (by omega) (by omega) (by omega) hc
        have hJd := hJ _ wr wr.drew hJs (below_drew (Below.refl _ _))
        obtain ⟨fn, tmps, assign, body, hy, hR⟩ := hY (List.range j) j wr.drew hJd ⟨rfl, by rw [← HI.out]; omega⟩
        rw [hp, ← HI.out] at hy
        have HP := Aside0.mk hp
        clear hp
        gi_wp2
        gi_region_with_o fail
        all_goals
          gi_wp2
          refine ⟨fun _ => by omega, hR.mono ?_⟩
          rintro e W3 ⟨bo, rfl, hgo, hst⟩
          clear hR hy
          cases bo
          · have hj := hst rfl
            clear hgo hst
            gi_wp2
            refine bodyPost_ret (results_none rfl _ _ _) rfl ?_
            exact ⟨⟨_, rfl⟩, .inr ⟨_, hj⟩⟩
          obtain ⟨hJ4, hk4⟩ := hgo rfl
          have hB4 := (hk4.2 B1 _ _ hB (.inl rfl)).trans hB
          have hB24 := (hk4.2 B2 _ _ hB2 (.inr rfl)).trans hB2
          have y2 : W3.cell? ⟨B2, 0, none⟩ = some (.int .i64 16) := (blk_cell hB24 0).trans rfl
          clear hgo hst b1 b2
          have hi16 : (i : Int) + 16 = ((16 * (j + 1) : Nat) : Int) := by
            have := HI.out
            omega
          have HW := Aside0.mk hi16
          clear hi16
          gi_wp2
          gi_roundg (L + 16 - 16 * (j + 1))
          all_goals first
          | exact ⟨j + 1, by rw [← HW.out], hB4, hB24, by rw [List.range_succ]; exact hJ4, rfl, by have := HI.out; omega⟩
          | (have := HI.out; omega)
      · have d1 : decide ((16 : Int) ≤ ((L - i : Nat) : Int)) = false := decide_eq_false (by omega)
        have d2 : decide (((L - i : Nat) : Int) < 16) = true := decide_eq_true (by omega)
        have d3 : decide (L - i < 16) = true := decide_eq_true (by omega)
        have e1 : (i : Int) + ((L - i : Nat) : Int) = (L : Int) := by omega
        have hp : partN L j = L - i := by unfold partN; rw [← HI.out]; omega
        have q2 := cut_en_lhm b L c i (L - i) ((L : Int)) (by omega) (by omega) (by omega) hc
        have hJd := hJ _ wr wr.drew hJs (below_drew (Below.refl _ _))
        obtain ⟨fn, tmps, assign, body, hy, hR⟩ := hY (List.range j) j wr.drew hJd ⟨rfl, by rw [← HI.out]; omega⟩
        rw [hp, ← HI.out] at hy
        have HP := Aside0.mk hp
        clear hp
        gi_wp2
        gi_region_with_o fail
        all_goals
          gi_wp2
          refine ⟨fun _ => by omega, hR.mono ?_⟩
          rintro e W3 ⟨bo, rfl, hgo, hst⟩
          clear hR hy
          cases bo
          · have hj := hst rfl
            clear hgo hst
            gi_wp2
            refine bodyPost_ret (results_none rfl _ _ _) rfl ?_
            exact ⟨⟨_, rfl⟩, .inr ⟨_, hj⟩⟩
          obtain ⟨hJ4, hk4⟩ := hgo rfl
          have hB4 := (hk4.2 B1 _ _ hB (.inl rfl)).trans hB
          have hB24 := (hk4.2 B2 _ _ hB2 (.inr rfl)).trans hB2
          have y2 : W3.cell? ⟨B2, 0, none⟩ = some (.int .i64 16) := (blk_cell hB24 0).trans rfl
          clear hgo hst b1 b2
          have hi16 : (i : Int) + 16 = ((16 * (j + 1) : Nat) : Int) := by
            have := HI.out
            omega
          have HW := Aside0.mk hi16
          clear hi16
          gi_wp2
          gi_roundg (L + 16 - 16 * (j + 1))
          all_goals first
          | exact ⟨j + 1, by rw [← HW.out], hB4, hB24, by rw [List.range_succ]; exact hJ4, rfl, by have := HI.out; omega⟩
          | (have := HI.out; omega)
    · obtain ⟨i, hi⟩ : ∃ i, i = 16 * j := ⟨_, rfl⟩
      rw [← hi]
      have t1 : decide ((i : Int) < (L : Int)) = false := decide_eq_false (by omega)
      have t2 : decide (i < L) = false := decide_eq_false (by omega)
      have HI := Aside0.mk hi
      clear hi
      gi_wp2
      go_end0
      exact ⟨⟨_, rfl⟩, .inl ⟨_, ⟨j, rfl, by have := HI.out; omega, by have := HI.out; omega⟩, hJs⟩⟩
abbrev Kas := List (List Int × Ag)
/-- Entries as pairs of bytes. -/
def kvsF (es : Kas) : List (List Int × List Int) := es.map fun x => (x.1, aggB x.2)
/-- Part j: sixteen entries, or what is left. -/
def prtF (kas : Kas) (j : Nat) : Kas := (kas.drop (16 * j)).take 16
def blkF (kas : Kas) (j : Nat) : List Int := rowB 0 [] (kvsF (prtF kas j))
def blksF (kas : Kas) (j : Nat) : List (List Int) := (List.range j).map (blkF kas)
/-- Part j's last key. -/
def keyF (kas : Kas) (j : Nat) : List Int := ((prtF kas j).map Prod.fst).getLastD []
def idxF (kas : Kas) (j : Nat) : List (List Int × List Int) := (List.range j).map fun i => (keyF kas i, numb (allF (blksF kas i)).length 8)
def bloF (bl : List Int) (ks : List (List Int)) : List Int := ks.foldl (fun b k => addF b k 6) bl
/-- How many bytes the filter of so many entries has. -/
def dgF (L : Nat) : Nat := min (max ((10 * L + 7) / 8) 1) 8192
def fltF (kas : Kas) : List Int := bloF (List.replicate (dgF kas.length) 0) (kas.map Prod.fst)
def nprt (L : Nat) : Nat := (L + 15) / 16
def framesF (kas : Kas) : List (List Int) := blksF kas (nprt kas.length) ++ [rowB 0 [] (idxF kas (nprt kas.length)), (6 : Int) :: fltF kas, numb kas.length 8 ++ numb (allF (blksF kas (nprt kas.length))).length 8]
def tableF (kas : Kas) : List Int := allF (framesF kas)
theorem blksF_succ (kas : Kas) (j : Nat) : blksF kas (j + 1) = blksF kas j ++ [blkF kas j] := by simp [blksF, List.range_succ]
theorem idxF_succ (kas : Kas) (j : Nat) : idxF kas (j + 1) = idxF kas j ++ [(keyF kas j, numb (allF (blksF kas j)).length 8)] := by simp [idxF, List.range_succ]
theorem allF_snoc (ds : List (List Int)) (d : List Int) : allF (ds ++ [d]) = allF ds ++ frameF d := by rw [allF_app]; simp [allF]
theorem prt_len (kas : Kas) (j : Nat) : (prtF kas j).length = partN kas.length j := by simp [prtF, partN]
theorem prt_take (kas : Kas) (j : Nat) : kas.take (16 * (j + 1)) = kas.take (16 * j) ++ prtF kas j := by rw [show 16 * (j + 1) = 16 * j + 16 by omega, List.take_add]; rfl
theorem prt_sub (kas : Kas) (j : Nat) : (prtF kas j).Sublist kas := (List.take_sublist _ _).trans (List.drop_sublist _ _)
theorem EOk.prt {kas : Kas} (h : EOk kas) (j : Nat) : EOk (prtF kas j) := by
  have hs := prt_sub kas j
  exact ⟨fun x hx => h.k x (hs.subset hx), fun x hx => h.a x (hs.subset hx), h.s.sublist (hs.map _), Nat.le_trans hs.length_le h.n⟩
theorem EOk.kv {kas : Kas} (h : EOk kas) : KvOk (kvsF kas) := by
  refine ⟨fun x hx => ?_, fun x hx => ?_, ?_, by simpa [kvsF] using h.n⟩
  · obtain ⟨y, hy, rfl⟩ := List.mem_map.1 hx
    have := h.k y hy
    exact ⟨this.1, this.2.1, by simp only; omega⟩
  · obtain ⟨y, hy, rfl⟩ := List.mem_map.1 hx
    exact ⟨aggB_byt _, by rw [aggB_len]; omega, by rw [aggB_len]; omega⟩
  · unfold kvsF
    rw [List.map_map]
    exact h.s
theorem key_at {kas : Kas} {j : Nat} (hj : 16 * j < kas.length) : ∃ h : min (16 * j + 15) (kas.length - 1) < kas.length, keyF kas j = (kas[min (16 * j + 15) (kas.length - 1)]).1 := by
  refine ⟨by omega, ?_⟩
  unfold keyF
  have hl := prt_len kas j
  unfold partN at hl
  have hne : 0 < (prtF kas j).length := by omega
  rw [List.getLastD_eq_getLast?, List.getLast?_map, List.getLast?_eq_getElem?, List.getElem?_eq_getElem (by omega)]
  simp only [Option.map_some, Option.getD_some]
  congr 1
  simp only [prtF, List.getElem_take, List.getElem_drop]
  congr 1
  unfold prtF at hl
  omega
theorem key_mem {kas : Kas} (h : EOk kas) {j : Nat} (hj : 16 * j < kas.length) : Byt (keyF kas j) ∧ 1 ≤ (keyF kas j).length ∧ (keyF kas j).length ≤ 256 := by
  obtain ⟨hi, e⟩ := key_at hj
  rw [e]
  exact h.k _ (List.getElem_mem hi)
theorem key_lt {kas : Kas} (h : EOk kas) {i j : Nat} (hij : i < j) (hj : 16 * j < kas.length) : lts (keyF kas i) (keyF kas j) = true := by
  obtain ⟨hi1, e1⟩ := key_at (kas := kas) (j := i) (by omega)
  obtain ⟨hi2, e2⟩ := key_at hj
  rw [e1, e2]
  have := (List.pairwise_iff_getElem.1 h.s) _ _ (by simpa using hi1) (by simpa using hi2) (by omega)
  simpa using this
theorem idx_ok {kas : Kas} (h : EOk kas) {n : Nat} (hn : ∀ j, j < n → 16 * j < kas.length) : KvOk (idxF kas n) := by
  refine ⟨fun x hx => ?_, fun x hx => ?_, ?_, ?_⟩
  · obtain ⟨i, hi, rfl⟩ := List.mem_map.1 hx
    have := key_mem h (hn i (List.mem_range.1 hi))
    exact ⟨this.1, this.2.1, by simp only; omega⟩
  · obtain ⟨i, hi, rfl⟩ := List.mem_map.1 hx
    exact ⟨numb_byt _ _, by simp [numb_length], by simp [numb_length]⟩
  · unfold idxF
    rw [List.map_map, List.pairwise_map]
    refine (List.pairwise_lt_range).imp_of_mem fun ha hb hab => ?_
    exact key_lt h hab (hn _ (List.mem_range.1 hb))
  · have hL := h.n
    have : (idxF kas n).length = n := by simp [idxF]
    rw [this]
    rcases Nat.eq_zero_or_pos n with h0 | h0
    · omega
    · have := hn (n - 1) (by omega)
      omega
theorem pairB_le {i : Nat} {last k v : List Int} {a b : Nat} (hk : k.length ≤ a) (hv : v.length ≤ b) (ha : a ≤ 4096) (hb : b ≤ 4096) : (pairB i last k v).length ≤ 9 + a + b := by
  have h0 := comN_le i last k
  have h1 := sh_length_le 2 (comN i last k) (by omega)
  have h2 := sh_length_le 2 (k.length - comN i last k) (by omega)
  have h3 := sh_length_le 2 v.length (by omega)
  unfold pairB
  simp only [List.length_append, List.length_drop]
  omega
theorem rowB_le {a b : Nat} (ha : a ≤ 4096) (hb : b ≤ 4096) : ∀ (kvs : List (List Int × List Int)) (i : Nat) (last : List Int), (∀ x ∈ kvs, x.1.length ≤ a ∧ x.2.length ≤ b) → (rowB i last kvs).length ≤ (9 + a + b) * kvs.length
  | [], _, _, _ => by simp [rowB]
  | x :: r, i, last, h => by
    have h1 := rowB_le ha hb r (i + 1) x.1 (fun y hy => h y (by simp [hy]))
    have h2 := pairB_le (i := i) (last := last) (h x (by simp)).1 (h x (by simp)).2 ha hb
    have h3 : (rowB i last (x :: r)).length = (pairB i last x.1 x.2).length + (rowB (i + 1) x.1 r).length := List.length_append
    rw [h3, List.length_cons, Nat.mul_succ]
    omega
theorem blk_le {kas : Kas} (h : EOk kas) (j : Nat) : (blkF kas j).length ≤ 4896 := by
  have hp := h.prt j
  have := rowB_le (a := 256) (b := 41) (by omega) (by omega) (kvsF (prtF kas j)) 0 [] (fun x hx => by
    obtain ⟨y, hy, rfl⟩ := List.mem_map.1 hx
    exact ⟨(hp.k y hy).2.2, by rw [aggB_len]; omega⟩)
  have hl : (kvsF (prtF kas j)).length ≤ 16 := by simp [kvsF, prtF]; omega
  have hm : (9 + 256 + 41) * (kvsF (prtF kas j)).length ≤ (9 + 256 + 41) * 16 := Nat.mul_le_mul_left _ hl
  unfold blkF
  omega
theorem idx_le {kas : Kas} (h : EOk kas) {n : Nat} (hn : ∀ j, j < n → 16 * j < kas.length) : (rowB 0 [] (idxF kas n)).length ≤ 273 * n := by
  have := rowB_le (a := 256) (b := 8) (by omega) (by omega) (idxF kas n) 0 [] (fun x hx => by
    obtain ⟨i, hi, rfl⟩ := List.mem_map.1 hx
    exact ⟨(key_mem h (hn i (List.mem_range.1 hi))).2.2, by simp [numb_length]⟩)
  have hl : (idxF kas n).length = n := by simp [idxF]
  rw [hl] at this
  exact this
theorem blks_le {kas : Kas} (h : EOk kas) : ∀ j, (allF (blksF kas j)).length ≤ 4904 * j
  | 0 => by simp [blksF, allF]
  | j + 1 => by
    have h1 := blks_le h j
    have h2 := blk_le h j
    rw [blksF_succ, allF_snoc, List.length_append, frameF_len]
    omega
theorem bloF_len (ks : List (List Int)) : ∀ bl, (bloF bl ks).length = bl.length := by
  induction ks with
  | nil => intro bl; rfl
  | cons k ks ih => intro bl; show (bloF (addF bl k 6) ks).length = _; rw [ih, addF_len]
theorem bloF_byt (ks : List (List Int)) : ∀ bl, Byt bl → Byt (bloF bl ks) := by
  induction ks with
  | nil => intro bl h; exact h
  | cons k ks ih => intro bl h; exact ih _ (addF_byt h k 6)
theorem bloF_app (bl : List Int) (ks ls : List (List Int)) : bloF bl (ks ++ ls) = bloF (bloF bl ks) ls := List.foldl_append
end Go.Proofs.Ythabkdbhjioalaa.Top
