/-
  What the orders of the package key, its parts, and the reference's tell: as plain words; and that the law's trial inputs come out as they should.
-/
import Derived.Test.YtkpkhggjhpikdaaKRead
namespace Go.Proofs.Ytkpkhggjhpikdaa.KFns
set_option linter.unusedSimpArgs false
set_option linter.unusedVariables false
open Go.RowKit Go.Proofs.Ytkpkhggjhpikdaa.Lib Go.Proofs.Ytkpkhggjhpikdaa.Plain Go.Proofs.Ytkpkhggjhpikdaa.Fns Go.Proofs.YtkpkhggjhpikdaaW.PrintWords Go.Proofs.YtkpkhggjhpikdaaW.PrintLast Go.Proofs.YtkpkhggjhpikdaaW.PrintMore

/-! ### the orders -/
/-- The order of two rows of texts: -1, 0, 1. -/
def ordL : List ByteArray → List ByteArray → Int
  | [], [] => 0
  | [], _ :: _ => -1
  | _ :: _, [] => 1
  | s :: l, t :: m => if lts (bs s) (bs t) = true then -1 else if lts (bs t) (bs s) = true then 1 else ordL l m
theorem rdOf_at {l : List ByteArray} {i : Nat} {s : ByteArray} {t : List ByteArray} (h : l.drop i = s :: t) : rdOf ByteArray.empty l (i : Int) = s := (rdOf_drop h).1
theorem compare_at (s t : ByteArray) : cmp_Compare_string.f s t = some (if lts (bs s) (bs t) = true then -1 else if lts (bs t) (bs s) = true then 1 else 0) := by
  unfold cmp_Compare_string.f cmp_isNaN_string.f
  simp only [bne_self_eq_false, Option.bind_some, less_bs]
  by_cases h1 : lts (bs s) (bs t) = true
  · simp [h1]
  · by_cases h2 : lts (bs t) (bs s) = true
    · simp [h1, h2]
    · simp [h1, h2]
theorem compare_l0 (l m : List ByteArray) (hl : l.length ≤ 9000000000000000000) (hm : m.length ≤ 9000000000000000000) : ∀ (x y : List ByteArray) (i : Nat), l.drop i = x → m.drop i = y → i ≤ l.length → i ≤ m.length → Ev (fun k => slices_Compare_string_string.l0 k l m l (l.length : Int) (i : Int)) (ordL x y) := by
  intro x
  induction x with
  | nil =>
    intro y i hx hy hi hi2
    have e1 := sdrop_nil hx hi
    refine Ev.step (fun _ => by rw [slices_Compare_string_string.l0]) (ev_neg (by omega) ?_)
    cases y with
    | nil =>
      have e2 := sdrop_nil hy hi2
      exact ev_neg (by omega) (ev_now rfl)
    | cons t y =>
      obtain ⟨_, hlt, _⟩ := rdOf_drop hy
      exact ev_pos (by omega) (ev_now rfl)
  | cons s x ih =>
    intro y i hx hy hi hi2
    obtain ⟨hr, hlt, ht⟩ := rdOf_drop hx
    refine Ev.step (fun _ => by rw [slices_Compare_string_string.l0]) (ev_pos (by omega) (ev_pos (by omega) (ev_pos (by omega) ?_)))
    cases y with
    | nil =>
      have e2 := sdrop_nil hy hi2
      exact ev_pos (by omega) (ev_now rfl)
    | cons t y =>
      obtain ⟨hr2, hlt2, ht2⟩ := rdOf_drop hy
      have W1 : Aside0 (wrap64 ((i : Int) + 1) = ((i + 1 : Nat) : Int)) := ⟨by rw [w64 (by omega) (by omega)]; omega⟩
      refine ev_neg (by omega) (ev_pos (by omega) ?_)
      rw [hr, hr2, compare_at, W1.out]
      simp only [Option.bind_some]
      unfold ordL
      by_cases h1 : lts (bs s) (bs t) = true
      · simp only [if_pos h1]
        exact ev_neg (by decide) (ev_now rfl)
      · simp only [if_neg h1]
        by_cases h2 : lts (bs t) (bs s) = true
        · simp only [if_pos h2]
          exact ev_neg (by decide) (ev_now rfl)
        · simp only [if_neg h2]
          exact ev_pos trivial (ih y (i + 1) ht ht2 (by omega) (by omega))
theorem ev_compare {l m : List ByteArray} (hl : l.length ≤ 9000000000000000000) (hm : m.length ≤ 9000000000000000000) : Ev (fun k => slices_Compare_string_string.f k l m) (ordL l m) := compare_l0 l m hl hm l m 0 rfl rfl (by omega) (by omega)
/-- A key ahead of another. -/
def lessB (l : List ByteArray) (z g : Int) (m : List ByteArray) (z' g' : Int) : Bool := if ordL l m = 0 then (if z = z' then decide (g < g') else decide (z < z')) else decide (ordL l m < 0)
theorem ev_less {l m : List ByteArray} (hl : l.length ≤ 9000000000000000000) (hm : m.length ≤ 9000000000000000000) (z g z' g' : Int) : Ev (fun k => key_Less.f k l z g m z' g') (lessB l z g m z' g') := by
  unfold key_Less.f
  refine (ev_compare hl hm).bind ?_
  by_cases h : ordL l m = 0
  · refine ev_pos h ?_
    unfold lessB
    rw [if_pos h]
    by_cases h2 : z = z'
    · refine ev_pos h2 (ev_now ?_); rw [if_pos h2]
    · refine ev_neg h2 (ev_now ?_); rw [if_neg h2]
  · refine ev_neg h (ev_now ?_)
    unfold lessB
    rw [if_neg h]
def sameB (l : List ByteArray) (z g : Int) (m : List ByteArray) (z' g' : Int) : Bool := decide (ordL l m = 0) && (decide (z = z') && decide (g = g'))
theorem ordL_refl : ∀ l, ordL l l = 0
  | [] => rfl
  | s :: l => by simp [ordL, lts_irrefl, ordL_refl l]
theorem ordL_zero : ∀ {l m : List ByteArray}, ordL l m = 0 → l = m
  | [], [], _ => rfl
  | [], _ :: _, h => by simp [ordL] at h
  | _ :: _, [], h => by simp [ordL] at h
  | s :: l, t :: m, h => by
    unfold ordL at h
    by_cases h1 : lts (bs s) (bs t) = true
    · rw [if_pos h1] at h; omega
    · rw [if_neg h1] at h
      by_cases h2 : lts (bs t) (bs s) = true
      · rw [if_pos h2] at h; omega
      · rw [if_neg h2] at h
        rw [bs_inj (lts_total _ _ (Bool.eq_false_iff.2 h1) (Bool.eq_false_iff.2 h2)), ordL_zero h]
theorem ordL_iff {l m : List ByteArray} : ordL l m = 0 ↔ l = m := ⟨ordL_zero, fun h => by rw [h, ordL_refl]⟩
theorem ordL_cases : ∀ (l m : List ByteArray), ordL l m = -1 ∨ ordL l m = 0 ∨ ordL l m = 1
  | [], [] => .inr (.inl rfl)
  | [], _ :: _ => .inl rfl
  | _ :: _, [] => .inr (.inr rfl)
  | s :: l, t :: m => by
    unfold ordL
    split
    · exact .inl rfl
    · split
      · exact .inr (.inr rfl)
      · exact ordL_cases l m
theorem ordL_flip : ∀ (l m : List ByteArray), ordL m l = - ordL l m
  | [], [] => rfl
  | [], _ :: _ => rfl
  | _ :: _, [] => rfl
  | s :: l, t :: m => by
    unfold ordL
    by_cases h1 : lts (bs s) (bs t) = true
    · rw [if_pos h1, if_neg (by rw [lts_asymm _ _ h1]; decide), if_pos h1]; rfl
    · rw [if_neg h1]
      by_cases h2 : lts (bs t) (bs s) = true
      · rw [if_pos h2, if_pos h2, if_neg h1]
      · rw [if_neg h2, if_neg h2, if_neg h1, ordL_flip l m]
theorem sameB_iff {l m : List ByteArray} {z g z' g' : Int} : sameB l z g m z' g' = true ↔ l = m ∧ z = z' ∧ g = g' := by
  unfold sameB
  simp only [Bool.and_eq_true, decide_eq_true_eq, ordL_iff]

/-! ### parts -/
theorem and_one (n : Int) : Go.bits .and .i64 n 1 = n % 2 := by
  have h127 : (BitVec.ofInt 64 1).toNat = 2 ^ 1 - 1 := by decide
  have key : (BitVec.ofInt 64 n &&& BitVec.ofInt 64 1).toNat = (n % ((2 ^ 64 : Nat) : Int)).toNat % 2 ^ 1 := by
    rw [BitVec.toNat_and, BitVec.toNat_ofInt, h127, Nat.and_two_pow_sub_one_eq_mod]
  show IntKind.i64.wrap ((BitVec.ofInt 64 n &&& BitVec.ofInt 64 1).toNat : Nat) = n % 2
  rw [key, IntKind.wrap_i64]
  omega
theorem and_forty (n : Int) : Go.bits .and .i64 n 1099511627775 = n % 1099511627776 := by
  have h127 : (BitVec.ofInt 64 1099511627775).toNat = 2 ^ 40 - 1 := by decide
  have key : (BitVec.ofInt 64 n &&& BitVec.ofInt 64 1099511627775).toNat = (n % ((2 ^ 64 : Nat) : Int)).toNat % 2 ^ 40 := by
    rw [BitVec.toNat_and, BitVec.toNat_ofInt, h127, Nat.and_two_pow_sub_one_eq_mod]
  show IntKind.i64.wrap ((BitVec.ofInt 64 n &&& BitVec.ofInt 64 1099511627775).toNat : Nat) = n % 1099511627776
  rw [key, IntKind.wrap_i64]
  omega
theorem bit_at (u i : Nat) (hi : i ≤ 64) : Go.bits .and .i64 (shr .i64 (u : Int) (i : Int)) 1 = ((u / 2 ^ i % 2 : Nat) : Int) := by
  rw [and_one]
  unfold shr
  rw [Int.toNat_natCast, show IntKind.bits .i64 = 64 from rfl, Nat.min_eq_left hi]
  push_cast
  rfl
/-- The texts that a mask names. -/
def sel : List ByteArray → Nat → List ByteArray
  | [], _ => []
  | s :: t, u => if u % 2 = 1 then s :: sel t (u / 2) else sel t (u / 2)
def partL (l : List ByteArray) (a : Int) : List ByteArray × Int := if a < 0 then ([], 1) else (sel l a.toNat, 0)
theorem sel_length : ∀ (l : List ByteArray) (u : Nat), (sel l u).length ≤ l.length
  | [], _ => Nat.le_refl _
  | s :: t, u => by
    have := sel_length t (u / 2)
    unfold sel
    split <;> simp <;> omega
theorem partL_length (l : List ByteArray) (a : Int) : (partL l a).1.length ≤ l.length := by
  unfold partL
  split
  · simp
  · exact sel_length _ _

/-! ### alive -/
end Go.Proofs.Ytkpkhggjhpikdaa.KFns
