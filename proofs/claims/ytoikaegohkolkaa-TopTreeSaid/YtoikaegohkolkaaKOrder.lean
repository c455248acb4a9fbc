/-
  What the orders of the package key, its parts, and the reference's tell: as plain words; and that the law's trial inputs come out as they should.
-/
import Derived.Test.YtoikaegohkolkaaKRead
namespace Go.Proofs.Ytoikaegohkolkaa.KFns
set_option linter.unusedSimpArgs false
set_option linter.unusedVariables false
open Go.RowKit Go.Proofs.Ytoikaegohkolkaa.Lib Go.Proofs.Ytoikaegohkolkaa.Plain Go.Proofs.Ytoikaegohkolkaa.Fns Go.Proofs.YtoikaegohkolkaaW.PrintWords Go.Proofs.YtoikaegohkolkaaW.PrintLast Go.Proofs.YtoikaegohkolkaaW.PrintMore

/-! ### the orders -/
/-- The order of two rows of texts: -1, 0, 1. -/
def ordL : List ByteArray → List ByteArray → Int
  | [], [] => 0
  | [], _ :: _ => -1
  | _ :: _, [] => 1
  | s :: l, t :: m => if lts (bs s) (bs t) = true then -1 else if lts (bs t) (bs s) = true then 1 else ordL l m
theorem rdOf_at {l : List ByteArray} {i : Nat} {s : ByteArray} {t : List ByteArray} (h : l.drop i = s :: t) : rdOf ByteArray.empty l (i : Int) = s := (rdOf_drop h).1
/-- A key ahead of another. -/
def lessB (l : List ByteArray) (z g : Int) (m : List ByteArray) (z' g' : Int) : Bool := if ordL l m = 0 then (if z = z' then decide (g < g') else decide (z < z')) else decide (ordL l m < 0)
def sameB (l : List ByteArray) (z g : Int) (m : List ByteArray) (z' g' : Int) : Bool := decide (ordL l m = 0) && (decide (z = z') && decide (g = g'))
theorem ordL_refl : ∀ l, ordL l l = 0
  | [] => rfl
  | s :: l => by simp [ordL, lts_irrefl, ordL_refl l]
theorem ordL_zero : ∀ {l m : List ByteArray}, ordL l m = 0 → l = m
  | [], [], _ => rfl
  | [], _ :: _, h => by simp [ordL] at h
  | _ :: _, [], h => by simp [ordL] at h
  | s :: l, t :: m, h => by
    unfold ordL at h
    by_cases h1 : lts (bs s) (bs t) = true
    · rw [if_pos h1] at h; omega
    · rw [if_neg h1] at h
      by_cases h2 : lts (bs t) (bs s) = true
      · rw [if_pos h2] at h; omega
      · rw [if_neg h2] at h
        rw [bs_inj (lts_total _ _ (Bool.eq_false_iff.2 h1) (Bool.eq_false_iff.2 h2)), ordL_zero h]
theorem ordL_iff {l m : List ByteArray} : ordL l m = 0 ↔ l = m := ⟨ordL_zero, fun h => by rw [h, ordL_refl]⟩
theorem ordL_cases : ∀ (l m : List ByteArray), ordL l m = -1 ∨ ordL l m = 0 ∨ ordL l m = 1
  | [], [] => .inr (.inl rfl)
  | [], _ :: _ => .inl rfl
  | _ :: _, [] => .inr (.inr rfl)
  | s :: l, t :: m => by
    unfold ordL
    split
    · exact .inl rfl
    · split
      · exact .inr (.inr rfl)
      · exact ordL_cases l m
theorem ordL_flip : ∀ (l m : List ByteArray), ordL m l = - ordL l m
  | [], [] => rfl
  | [], _ :: _ => rfl
  | _ :: _, [] => rfl
  | s :: l, t :: m => by
    unfold ordL
    by_cases h1 : lts (bs s) (bs t) = true
    · rw [if_pos h1, if_neg (by rw [lts_asymm _ _ h1]; decide), if_pos h1]; rfl
    · rw [if_neg h1]
      by_cases h2 : lts (bs t) (bs s) = true
      · rw [if_pos h2, if_pos h2, if_neg h1]
      · rw [if_neg h2, if_neg h2, if_neg h1, ordL_flip l m]
theorem sameB_iff {l m : List ByteArray} {z g z' g' : Int} : sameB l z g m z' g' = true ↔ l = m ∧ z = z' ∧ g = g' := by
  unfold sameB
  simp only [Bool.and_eq_true, decide_eq_true_eq, ordL_iff]

/-! ### parts -/
theorem and_one (n : Int) : Go.bits .and .i64 n 1 = n % 2 := by
  have h127 : (BitVec.ofInt 64 1).toNat = 2 ^ 1 - 1 := by decide
  have key : (BitVec.ofInt 64 n &&& BitVec.ofInt 64 1).toNat = (n % ((2 ^ 64 : Nat) : Int)).toNat % 2 ^ 1 := by
    rw [BitVec.toNat_and, BitVec.toNat_ofInt, h127, Nat.and_two_pow_sub_one_eq_mod]
  show IntKind.i64.wrap ((BitVec.ofInt 64 n &&& BitVec.ofInt 64 1).toNat : Nat) = n % 2
  rw [key, IntKind.wrap_i64]
  omega
theorem and_forty (n : Int) : Go.bits .and .i64 n 1099511627775 = n % 1099511627776 := by
  have h127 : (BitVec.ofInt 64 1099511627775).toNat = 2 ^ 40 - 1 := by decide
  have key : (BitVec.ofInt 64 n &&& BitVec.ofInt 64 1099511627775).toNat = (n % ((2 ^ 64 : Nat) : Int)).toNat % 2 ^ 40 := by
    rw [BitVec.toNat_and, BitVec.toNat_ofInt, h127, Nat.and_two_pow_sub_one_eq_mod]
  show IntKind.i64.wrap ((BitVec.ofInt 64 n &&& BitVec.ofInt 64 1099511627775).toNat : Nat) = n % 1099511627776
  rw [key, IntKind.wrap_i64]
  omega
theorem bit_at (u i : Nat) (hi : i ≤ 64) : Go.bits .and .i64 (shr .i64 (u : Int) (i : Int)) 1 = ((u / 2 ^ i % 2 : Nat) : Int) := by
  rw [and_one]
  unfold shr
  rw [Int.toNat_natCast, show IntKind.bits .i64 = 64 from rfl, Nat.min_eq_left hi]
  push_cast
  rfl
/-- The texts that a mask names. -/
def sel : List ByteArray → Nat → List ByteArray
  | [], _ => []
  | s :: t, u => if u % 2 = 1 then s :: sel t (u / 2) else sel t (u / 2)
def partL (l : List ByteArray) (a : Int) : List ByteArray × Int := if a < 0 then ([], 1) else (sel l a.toNat, 0)
theorem sel_length : ∀ (l : List ByteArray) (u : Nat), (sel l u).length ≤ l.length
  | [], _ => Nat.le_refl _
  | s :: t, u => by
    have := sel_length t (u / 2)
    unfold sel
    split <;> simp <;> omega
theorem partL_length (l : List ByteArray) (a : Int) : (partL l a).1.length ≤ l.length := by
  unfold partL
  split
  · simp
  · exact sel_length _ _

/-! ### alive -/
end Go.Proofs.Ytoikaegohkolkaa.KFns
