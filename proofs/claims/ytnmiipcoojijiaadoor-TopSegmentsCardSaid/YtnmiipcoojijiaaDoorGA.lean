/-
  A number of four bytes is read; conditions: those that each theorem states.
-/
import Derived.Test.YtnmiipcoojijiaaDoorGN
import Derived.Laws.BitsAllLaws
import Derived.Laws.Slices
import Derived.Test.YtnmiipcoojijiaaDoorZRange
namespace Go.Proofs.YtnmiipcoojijiaaDoor.Top
set_option linter.unusedSimpArgs false
set_option linter.unusedVariables false
open Go.RowKit Go.Proofs.YtnmiipcoojijiaaDoorW.PrintWords Go.Proofs.YtnmiipcoojijiaaDoorW.PrintLast Go.Proofs.YtnmiipcoojijiaaDoorW.PrintMore Go.Proofs.YtnmiipcoojijiaaDoor.Plain Go.Proofs.YtnmiipcoojijiaaDoor.Fns
theorem or_u32 (v m : Nat) (hv : v < 4294967296) (hm : m < 4294967296) : Go.bits .or .u32 (v : Int) (m : Int) = ((v ||| m : Nat) : Int) := by
  have h : v ||| m < 2 ^ 32 := Nat.or_lt_two_pow hv hm
  show IntKind.u32.wrap ((((BitVec.ofInt 32 (v : Int)) ||| (BitVec.ofInt 32 (m : Int))).toNat : Nat) : Int) = _
  rw [BitVec.ofInt_natCast, BitVec.ofInt_natCast, BitVec.toNat_or, BitVec.toNat_ofNat, BitVec.toNat_ofNat]
  rw [Nat.mod_eq_of_lt (show v < 2 ^ 32 from hv), Nat.mod_eq_of_lt (show m < 2 ^ 32 from hm), IntKind.wrap_u32]
  omega
theorem or_part (v a i : Nat) (hv : v < 2 ^ i) (hv2 : v < 4294967296) (h : a * 2 ^ i < 4294967296) : Go.bits .or .u32 (v : Int) ((a * 2 ^ i : Nat) : Int) = ((v + a * 2 ^ i : Nat) : Int) := by
  rw [or_u32 v _ hv2 h, Nat.or_comm, Nat.mul_comm a, ← Nat.two_pow_add_eq_or_of_lt hv a, Nat.add_comm]
theorem four_sum (b0 b1 b2 b3 : Nat) (h0 : b0 < 256) (h1 : b1 < 256) (h2 : b2 < 256) (h3 : b3 < 256) :
    Go.bits .or .u32 (Go.bits .or .u32 (Go.bits .or .u32 ((b0 : Int) % 4294967296) ((((b1 : Int) % 4294967296) * 256) % 4294967296)) ((((b2 : Int) % 4294967296) * 65536) % 4294967296)) ((((b3 : Int) % 4294967296) * 16777216) % 4294967296) = ((b0 + b1 * 256 + b2 * 65536 + b3 * 16777216 : Nat) : Int) := by
  have e1 := or_part b0 b1 8 (by omega) (by omega) (by omega)
  have e2 := or_part (b0 + b1 * 2 ^ 8) b2 16 (by omega) (by omega) (by omega)
  have e3 := or_part (b0 + b1 * 2 ^ 8 + b2 * 2 ^ 16) b3 24 (by omega) (by omega) (by omega)
  have a0 : (b0 : Int) % 4294967296 = (b0 : Int) := by omega
  have a1 : ((b1 : Int) % 4294967296) * 256 % 4294967296 = ((b1 * 2 ^ 8 : Nat) : Int) := by omega
  have a2 : ((b2 : Int) % 4294967296) * 65536 % 4294967296 = ((b2 * 2 ^ 16 : Nat) : Int) := by omega
  have a3 : ((b3 : Int) % 4294967296) * 16777216 % 4294967296 = ((b3 * 2 ^ 24 : Nat) : Int) := by omega
  rw [a0, a1, a2, a3, e1, e2, e3]
theorem four_nat (x : Nat) : fourB (x : Int) = [((x % 256 : Nat) : Int), ((x / 256 % 256 : Nat) : Int), ((x / 65536 % 256 : Nat) : Int), ((x / 16777216 % 256 : Nat) : Int)] := by
  unfold fourB
  simp
theorem four_val (x : Nat) (hx : x < 4294967296) : x % 256 + x / 256 % 256 * 256 + x / 65536 % 256 * 65536 + x / 16777216 % 256 * 16777216 = x := by omega
theorem number_list (b0 b1 b2 b3 : Nat) (h0 : b0 < 256) (h1 : b1 < 256) (h2 : b2 < 256) (h3 : b3 < 256) (more : List Int) : Lib.crc_number.f ((b0 : Int) :: (b1 : Int) :: (b2 : Int) :: (b3 : Int) :: more) = some ((b0 + b1 * 256 + b2 * 65536 + b3 * 16777216 : Nat) : Int) := by
  unfold Lib.crc_number.f
  have hl : ((b0 : Int) :: (b1 : Int) :: (b2 : Int) :: (b3 : Int) :: more).length = more.length + 4 := by simp
  have e0 : rd ((b0 : Int) :: (b1 : Int) :: (b2 : Int) :: (b3 : Int) :: more) 0 = (b0 : Int) := by simp [rd]
  have e1 : rd ((b0 : Int) :: (b1 : Int) :: (b2 : Int) :: (b3 : Int) :: more) 1 = (b1 : Int) := by simp [rd]
  have e2 : rd ((b0 : Int) :: (b1 : Int) :: (b2 : Int) :: (b3 : Int) :: more) 2 = (b2 : Int) := by simp [rd]
  have e3 : rd ((b0 : Int) :: (b1 : Int) :: (b2 : Int) :: (b3 : Int) :: more) 3 = (b3 : Int) := by simp [rd]
  rw [if_pos (by omega), if_pos (by omega), if_pos (by omega), if_pos (by omega), e0, e1, e2, e3, four_sum b0 b1 b2 b3 h0 h1 h2 h3]
theorem number_four {x : Nat} (hx : x < 4294967296) (more : List Int) : Lib.crc_number.f (fourB x ++ more) = some (x : Int) := by
  have h := number_list (x % 256) (x / 256 % 256) (x / 65536 % 256) (x / 16777216 % 256) (by omega) (by omega) (by omega) (by omega) more
  rw [four_val x hx] at h
  rw [four_nat]
  exact h
theorem number_c {w : World} {A : Option Addr} {c n x : Nat} {more : List Int} (hx : x < 4294967296) (h : RdB w A (fourB x ++ more)) (hn : n = (fourB (x : Int) ++ more).length) (hc : n ≤ c) :
    Calls Tryd.prog 75 #[.slice A n c] w fun e w' => e = .returned (.int .u32 x) ∧ Drawn0 w w' := by
  subst hn
  exact Lib.crc_number.calls A c _ _ w h hc (number_four hx more)
theorem rdb_nil_at (W : World) (A : Option Addr) (h : A ≠ none) : RdB W A [] := ⟨rfl, by simp, fun h => absurd h (Nat.lt_irrefl 0)⟩
theorem elem_u8 : Tryd.prog.elem 60 = 5 := by simp [Program.elem, Tryd.underlying60]
theorem under_u8 : Tryd.prog.underlying 60 = some (.slice (Tryd.prog.elem 60)) := by rw [elem_u8]; exact Tryd.underlying60
theorem size_u8 (W : World) : (sizeOf (Tryd.prog.elem 60)).run Tryd.prog W = .ok 1 W := by
  obtain ⟨i0, hi, hzz⟩ := Option.map_eq_some_iff.1 info_u8
  simp only [Prod.mk.injEq] at hzz
  rw [elem_u8]
  simp [sizeOf, typeInfo, hi, hzz.2.1, Result.andThen]
/-- Where a row that is cut begins. -/
def cutA (a : Addr) (i c : Nat) : Addr := if c = i then a else a.add i
theorem cutA_rd {W : World} {a : Addr} {i c : Nat} {l : List Int} (h : RdB W (some a) l) (hl : l.length ≤ c) : RdB W (some (cutA a i c)) (l.drop i) := by
  unfold cutA
  by_cases hc : c = i
  · rw [if_pos hc, List.drop_of_length_le (by omega)]
    exact rdb_nil_at W _ (by simp)
  · rw [if_neg hc]
    exact rdb_drop h i
theorem cut_lo (a : Addr) (n c i : Nat) (z : Int) (hz : z = (i : Int)) (hi : i ≤ n) (W : World) :
    (Instr.slice 60 (.slice (some a) n c) (some (.int .i64 z)) none none).run Tryd.prog W = .ok (.slice (some (cutA a i c)) (n - i) (c - i)) W := by
  subst hz
  rw [run_slice_l W 60 (some a) n c under_u8 .i64 (i : Int) (by omega) (by omega), size_u8]
  simp only [Result.andThen, sliced, Int.toNat_natCast, Nat.mul_one, cutA]
  by_cases hc : c = i
  · rw [if_pos hc, if_pos hc]
  · rw [if_neg hc, if_neg hc]
    rfl
theorem cut_hi (a : Addr) (n c j : Nat) (z : Int) (hz : z = (j : Int)) (hj : j ≤ c) (W : World) :
    (Instr.slice 60 (.slice (some a) n c) none (some (.int .i64 z)) none).run Tryd.prog W = .ok (.slice (some a) j c) W := by
  subst hz
  rw [run_slice_h W 60 (some a) n c under_u8 .i64 (j : Int) (by omega) (by omega), size_u8]
  simp only [Result.andThen, sliced, Int.toNat_natCast, Nat.mul_one, Nat.sub_zero]
  by_cases hc : c = 0
  · rw [if_pos hc]
  · rw [if_neg hc]
    simp [Addr.add]
theorem cut_lh (a : Addr) (n c i j : Nat) (z y : Int) (hz : z = (i : Int)) (hy : y = (j : Int)) (hij : i ≤ j) (hj : j ≤ c) (W : World) :
    (Instr.slice 60 (.slice (some a) n c) (some (.int .i64 z)) (some (.int .i64 y)) none).run Tryd.prog W = .ok (.slice (some (cutA a i c)) (j - i) (c - i)) W := by
  subst hz
  subst hy
  rw [run_slice_lh W 60 (some a) n c under_u8 .i64 .i64 (i : Int) (j : Int) (by omega) (by omega) (by omega), size_u8]
  simp only [Result.andThen, sliced, Int.toNat_natCast, Nat.mul_one, cutA]
  by_cases hc : c = i
  · rw [if_pos hc, if_pos hc]
  · rw [if_neg hc, if_neg hc]
    rfl
theorem front_drop (d more : List Int) : (frameF d ++ more).drop (d.length + 4) = fourB (moreF 0 (frontF d)) ++ more := by
  unfold frameF
  rw [List.append_assoc, List.drop_append_of_le_length (by rw [frontF_len]; omega), List.drop_of_length_le (by rw [frontF_len]; omega), List.nil_append]
theorem front_take (d more : List Int) : (frameF d ++ more).take (d.length + 4) = frontF d := by
  unfold frameF
  rw [List.append_assoc, List.take_append_of_le_length (by rw [frontF_len]; omega), List.take_of_length_le (by rw [frontF_len]; omega)]
theorem front_data (d more : List Int) : ((frameF d ++ more).drop 4).take d.length = d := by
  have : (frameF d ++ more).drop 4 = d ++ (fourB (moreF 0 (frontF d)) ++ more) := by
    unfold frameF frontF
    rw [List.append_assoc, List.append_assoc, List.drop_append_of_le_length (by rw [fourB_len]; omega), List.drop_of_length_le (by rw [fourB_len]; omega), List.nil_append]
  rw [this, List.take_append_of_le_length (Nat.le_refl _), List.take_length]
theorem next_nil {w : World} {A : Option Addr} {c : Nat} : Calls Tryd.prog 58 #[.slice A 0 c] w fun e w' => e = .returned (.tuple #[.slice none 0 0, .int .i64 0, .int .i64 10]) ∧ Below w.heap.size w w' := by
  go_enter Tryd.func58, Tryd.ntmps58
  go_wp2
  refine bodyPost_ret (results_tmp3 rfl _ _ _) rfl ?_
  exact ⟨rfl, Below.refl _ _⟩
set_option maxHeartbeats 2000000 in
set_option maxRecDepth 100000 in
theorem next_c {w : World} {a : Addr} {c : Nat} {d more : List Int} (hr : RdB w (some a) (frameF d ++ more)) (hc : (frameF d ++ more).length ≤ c) (hb : Byt d) (hl : d.length ≤ 65535) (hml : more.length < 100000000) :
    Calls Tryd.prog 58 #[.slice (some a) (frameF d ++ more).length c] w fun e w' => ∃ v, e = .returned (.tuple #[v, .int .i64 (d.length + 8 : Nat), .int .i64 0]) ∧ w'.ownsRow w.heap.size 5 1 v d.length (nums .u8 d) ∧ Below w.heap.size w w' := by
  have hL : (frameF d ++ more).length = d.length + 8 + more.length := by rw [List.length_append, frameF_len]
  have hm := moreF_rng 0 (frontF d)
  obtain ⟨x, hx⟩ := Int.eq_ofNat_of_zero_le hm.1
  have hx2 : x < 4294967296 := by omega
  have hw : frameF d ++ more = fourB ((d.length : Nat) : Int) ++ (d ++ (fourB (moreF 0 (frontF d)) ++ more)) := by
    unfold frameF frontF
    simp
  have hn1 := number_c (w := w) (A := some a) (c := c) (n := (frameF d ++ more).length) (x := d.length) (more := d ++ (fourB (moreF 0 (frontF d)) ++ more)) (by omega) (by rw [← hw]; exact hr) (by rw [← hw]) hc
  have hr2 : ∀ W : World, RdB W (some a) (frameF d ++ more) → RdB W (some (cutA a (d.length + 4) c)) (fourB (x : Int) ++ more) := fun W h => by
    have := cutA_rd (i := d.length + 4) h hc
    rwa [front_drop, hx] at this
  have hr3 : ∀ W : World, RdB W (some a) (frameF d ++ more) → RdB W (some a) (frontF d) := fun W h => by
    have := rdb_take h (d.length + 4)
    rwa [front_take] at this
  have hr4 : ∀ W : World, RdB W (some a) (frameF d ++ more) → RdB W (some (cutA a 4 c)) d := fun W h => by
    have := rdb_take (cutA_rd (i := 4) h hc) d.length
    rwa [front_data] at this
  have HR := Aside0.mk hr
  have HR2 := Aside0.mk hr2
  have HR3 := Aside0.mk hr3
  have HR4 := Aside0.mk hr4
  have HX := Aside0.mk hx
  have HB := Aside0.mk hb
  clear hr2 hr3 hr4 hr hw hm hx hb
  generalize hLL : (frameF d ++ more).length = L at *
  have t1 : decide ((L : Int) < 4) = false := decide_eq_false (by omega)
  have t2 : decide ((65535 : Int) < (d.length : Int)) = false := decide_eq_false (by omega)
  have q1 := cut_lo a L c (d.length + 4) ((d.length : Int) + 4) (by omega) (by omega)
  have q2 := cut_hi a L c (d.length + 4) ((d.length : Int) + 4) (by omega) (by omega)
  have q3 := cut_lh a L c 4 (d.length + 4) 4 ((d.length : Int) + 4) rfl (by omega) (by omega) (by omega)
  rw [show d.length + 4 - 4 = d.length by omega] at q3
  have t3 : decide ((L : Int) < (d.length : Int) + 8) = false := decide_eq_false (by omega)
  have HLL := Aside0.mk hLL
  have HL := Aside0.mk hL
  clear hLL hL
  go_enter Tryd.func58, Tryd.ntmps58
  go_wp2_with fail
  refine hn1.mono ?_
  rintro e w2 ⟨rfl, hd2⟩
  obtain ⟨n2, rfl⟩ := hd2.out
  have hR2 : RdB (w.drewN n2).drew (some a) (frameF d ++ more) := (HR.out.drewN n2).below (below_drew (Below.refl _ _))
  have HR5 := Aside0.mk hR2
  have HC := Aside0.mk hc
  clear hd2 hn1 hR2 hc
  go_wp2_with fail
  have hHH : ∀ W : World, RdB W (some a) (frameF d ++ more) → Calls Tryd.prog 75 #[.slice (some (cutA a (d.length + 4) c)) (L - (d.length + 4)) (c - (d.length + 4))] W fun e w' => e = .returned (.int .u32 x) ∧ Drawn0 W w' := fun W h =>
    number_c (more := more) hx2 (HR2.out _ h) (by rw [List.length_append, fourB_len]; have := HL.out; omega) (by have := HC.out; omega)
  have hSS : ∀ W : World, RdB W (some a) (frameF d ++ more) → Calls Tryd.prog 41 #[.slice (some a) (d.length + 4) c] W fun e w' => e = .returned (.int .u32 x) ∧ W = w' := fun W h => by
    have := crc_sum_c (w := W) (c := c) (HR3.out _ h) (by rw [frontF_len]; omega) (frontF_byt HB.out)
    rwa [frontF_len, HX.out] at this
  have HHH := Aside0.mk hHH
  have HSS := Aside0.mk hSS
  clear hHH hSS
  have hS5 := HR5.out
  clear HR5
  have hB2 := pw_below_drewN (Below.refl w.heap.size w) n2
  generalize w.drewN n2 = w2 at *
  have u1 : IntKind.i64.wrap ((d.length : Int) + 4) = (d.length : Int) + 4 := IntWalk.i64_in _ (by omega)
  have u2 : wrap64 ((d.length : Int) + 4) = (d.length : Int) + 4 := w64 (by omega) (by omega)
  go_region_held3 (fun w' => RdB w' (some a) (frameF d ++ more)) (assumption) (first
    | (go_at_call 75; refine (HHH.out _ (by assumption)).mono ?_; rintro e w4 ⟨rfl, hd4⟩; have hk4 : RdB w4 (some a) (frameF d ++ more) := by (obtain ⟨n4, rfl⟩ := hd4.out; exact RdB.drewN (by assumption) n4))
    | (go_at_call 41; refine (HSS.out _ (by assumption)).mono ?_; rintro e w5 ⟨rfl, rfl⟩))
  go_wp2_with (go_at_call 44; refine (clone_a (k := d) (c := c - 4) (HR4.out _ (by assumption)) (by omega)).mono ?_; rintro e w6 ⟨v6, rfl, ho6, hb6⟩)
  refine bodyPost_ret (results_tmp3 rfl _ _ _) rfl ?_
  have hB4 := (below_drew hB2).trans (hd4.below.mono (below_drew hB2).size)
  exact ⟨v6, by rfl, own_low ho6 hB4.size, hB4.trans (hb6.mono hB4.size)⟩
end Go.Proofs.YtnmiipcoojijiaaDoor.Top
