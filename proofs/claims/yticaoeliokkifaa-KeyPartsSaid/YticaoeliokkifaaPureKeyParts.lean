/-
  A part holds the texts that its mask names, in order; what it leaves is the other mask's part; the whole mask's part is all.
-/
import Derived.Test.YticaoeliokkifaaLibLKeyParts
import Derived.Test.YticaoeliokkifaaKLaws
import Derived.Test.YticaoeliokkifaaOpen
namespace Go.Proofs.Yticaoeliokkifaa.Pure
set_option linter.unusedSimpArgs false
set_option linter.unusedVariables false
open Go.RowKit Go.Proofs.Yticaoeliokkifaa.Lib Go.Proofs.Yticaoeliokkifaa.Plain Go.Proofs.Yticaoeliokkifaa.Fns Go.Proofs.Yticaoeliokkifaa.KFns Go.Proofs.YticaoeliokkifaaW.PrintWords Go.Proofs.YticaoeliokkifaaW.PrintLast Go.Proofs.YticaoeliokkifaaW.PrintMore
theorem sel_all : ∀ (l : List ByteArray) (n : Nat), l.length ≤ n → sel l (2 ^ n - 1) = l
  | [], _, _ => rfl
  | s :: t, 0, h => by simp at h
  | s :: t, n + 1, h => by
    have hp : (2 : Nat) ^ (n + 1) = 2 * 2 ^ n := by rw [Nat.pow_succ, Nat.mul_comm]
    have h0 : 0 < (2 : Nat) ^ n := Nat.two_pow_pos n
    unfold sel
    rw [if_pos (by omega), show (2 ^ (n + 1) - 1) / 2 = 2 ^ n - 1 by omega, sel_all t n (by simpa using h)]
theorem bit_other (u i : Nat) (hi : i < 40) : (1099511627775 - u % 1099511627776) / 2 ^ i % 2 = 1 - u / 2 ^ i % 2 := by
  have h1 : Nat.testBit (2 ^ 40 - (u % 2 ^ 40 + 1)) i = (decide (i < 40) && !Nat.testBit (u % 2 ^ 40) i) := Nat.testBit_two_pow_sub_succ (Nat.mod_lt _ (Nat.two_pow_pos 40)) i
  have h2 : Nat.testBit (u % 2 ^ 40) i = (decide (i < 40) && Nat.testBit u i) := Nat.testBit_mod_two_pow u 40 i
  rw [h2, decide_eq_true hi, Bool.true_and, Bool.true_and] at h1
  rw [Nat.testBit_eq_decide_div_mod_eq, Nat.testBit_eq_decide_div_mod_eq] at h1
  have e : 2 ^ 40 - (u % 2 ^ 40 + 1) = 1099511627775 - u % 1099511627776 := by
    rw [show (2 : Nat) ^ 40 = 1099511627776 from rfl]; omega
  rw [e] at h1
  generalize (1099511627775 - u % 1099511627776) / 2 ^ i = a at *
  generalize u / 2 ^ i = b at *
  by_cases hb : b % 2 = 1
  · rw [decide_eq_true hb] at h1
    have := of_decide_eq_false h1
    omega
  · rw [decide_eq_false hb] at h1
    have := of_decide_eq_true h1
    omega
theorem parts_l0 (l : List ByteArray) (hl : l.length ≤ 40) (u : Nat) (hu : u < 9223372036854775808) (p q w : List ByteArray) (hp : p.length ≤ 40) (hq : q.length ≤ 40) (hw : w = l) :
    ∀ (x : List ByteArray) (i a b : Nat), l.drop i = x → i ≤ l.length → a ≤ p.length → b ≤ q.length → p.drop a = sel x (u / 2 ^ i) → q.drop b = sel x ((1099511627775 - u % 1099511627776) / 2 ^ i) →
      Ev (fun k => rickyardlaw06_KeyParts.l0 k l (u : Int) p 0 q 0 w 0 (a : Int) (b : Int) (i : Int)) true := by
  intro x
  induction x with
  | nil =>
    intro i a b hx hi ha hb h1 h2
    have e0 := sdrop_nil hx hi
    have e1 := sdrop_nil h1 ha
    have e2 := sdrop_nil h2 hb
    refine Ev.step (fun _ => by rw [rickyardlaw06_KeyParts.l0]) (ev_neg (by omega) (ev_alive.bind (ev_pos rfl (ev_pos rfl (ev_pos rfl (ev_pos rfl (ev_pos (show (a : Int) = (p.length : Int) by omega) (ev_pos (show (b : Int) = (q.length : Int) by omega) ?_))))))))
    refine (ev_order (by rw [hw]; omega) (by omega)).bind (ev_now ?_)
    rw [hw, ordL_refl]; rfl
  | cons s x ih =>
    intro i a b hx hi ha hb h1 h2
    obtain ⟨hr, hlt, ht⟩ := rdOf_drop hx
    have HX : Aside0 (IntKind.u64.wrap (i : Int) = (i : Int)) := ⟨IntWalk.u64_in _ (by omega)⟩
    have W1 : Aside0 (wrap64 ((i : Int) + 1) = ((i + 1 : Nat) : Int)) := ⟨by rw [w64 (by omega) (by omega)]; omega⟩
    have WA : Aside0 (wrap64 ((a : Int) + 1) = ((a + 1 : Nat) : Int)) := ⟨by rw [w64 (by omega) (by omega)]; omega⟩
    have WB : Aside0 (wrap64 ((b : Int) + 1) = ((b + 1 : Nat) : Int)) := ⟨by rw [w64 (by omega) (by omega)]; omega⟩
    have hbo := bit_other u i (by omega)
    have d1 : u / 2 ^ i / 2 = u / 2 ^ (i + 1) := by rw [Nat.div_div_eq_div_mul, Nat.pow_succ]
    have d2 : (1099511627775 - u % 1099511627776) / 2 ^ i / 2 = (1099511627775 - u % 1099511627776) / 2 ^ (i + 1) := by rw [Nat.div_div_eq_div_mul, Nat.pow_succ]
    unfold sel at h1 h2
    rw [d1] at h1
    rw [d2] at h2
    have HB := Aside0.mk (bit_at u i (by omega))
    refine Ev.step (fun _ => by rw [rickyardlaw06_KeyParts.l0]) (ev_pos (by omega) ?_)
    rw [HX.out]
    refine ev_pos (by omega) ?_
    rw [HB.out]
    by_cases hbit : u / 2 ^ i % 2 = 1
    · rw [if_pos hbit] at h1
      rw [if_neg (by omega)] at h2
      obtain ⟨r1, r2, r3⟩ := rdOf_drop h1
      refine ev_pos (by omega) (ev_pos (by omega) (ev_pos (by omega) (ev_pos (by omega) ?_)))
      rw [r1, hr, beq_self_eq_true]
      refine Ev.step (fun _ => by rw [rickyardlaw06_KeyParts.j2]) (ev_pos rfl ?_)
      rw [WA.out, W1.out]
      exact ih (i + 1) (a + 1) b ht (by omega) (by omega) hb r3 h2
    · rw [if_neg hbit] at h1
      rw [if_pos (by omega)] at h2
      obtain ⟨r1, r2, r3⟩ := rdOf_drop h2
      refine ev_neg (by omega) (Ev.step (fun _ => by rw [rickyardlaw06_KeyParts.j2]) (ev_neg (by decide) ?_))
      rw [HX.out]
      refine ev_pos (by omega) ?_
      rw [HB.out]
      refine ev_pos (by omega) (ev_pos (by omega) (ev_pos (by omega) (ev_pos (by omega) (ev_pos (by omega) (ev_pos (by rw [r1, hr]) ?_)))))
      rw [WB.out, W1.out]
      exact ih (i + 1) a (b + 1) ht (by omega) ha (by omega) h1 r3
theorem KeyParts {A0 : Option Addr} {c0 : Nat} {l0 : List ByteArray} {a1 : Int} (W : World) (t0 : Open.Texts W A0 c0 l0) (i1 : Open.I64 a1) : ∃ n, rickyardlaw06_KeyParts.f n l0 a1 = some true := by
  apply Ev.rounds
  unfold rickyardlaw06_KeyParts.f
  have dead : Ev (fun k => rickyardlaw06_KeyParts.j0 k l0 a1 true) true := Ev.step (fun _ => by rw [rickyardlaw06_KeyParts.j0]) (ev_pos rfl ev_aliveSome)
  refine (ev_long l0).bind ?_
  by_cases h1 : longB l0 = true
  · exact ev_pos h1 dead
  refine ev_neg h1 ?_
  by_cases h2 : (l0.length : Int) > 40
  · exact ev_pos h2 dead
  refine ev_neg h2 ?_
  by_cases h3 : a1 < 0
  · rw [decide_eq_true h3]; exact dead
  rw [decide_eq_false h3]
  have hi1 := i1.2
  obtain ⟨u, rfl⟩ := Int.eq_ofNat_of_zero_le (show 0 ≤ a1 by omega)
  have HC : Aside0 (wrap64 (1099511627775 - (Go.bits .and .i64 (u : Int) 1099511627775)) = ((1099511627775 - u % 1099511627776 : Nat) : Int)) := ⟨by rw [and_forty, w64 (by omega) (by omega)]; omega⟩
  have e1 : partL l0 (u : Int) = (sel l0 u, 0) := by unfold partL; rw [if_neg (by omega), Int.toNat_natCast]
  have e2 : partL l0 ((1099511627775 - u % 1099511627776 : Nat) : Int) = (sel l0 (1099511627775 - u % 1099511627776), 0) := by unfold partL; rw [if_neg (by omega), Int.toNat_natCast]
  have e3 : partL l0 1099511627775 = (l0, 0) := by
    unfold partL
    rw [if_neg (by decide), show (1099511627775 : Int).toNat = 2 ^ 40 - 1 from rfl, sel_all l0 40 (by omega)]
  refine Ev.step (fun _ => by rw [rickyardlaw06_KeyParts.j0]) (ev_neg (by decide) ?_)
  rw [HC.out]
  refine (ev_part (by omega) (by omega)).bind ((ev_part (by omega) (by omega)).bind ((ev_part (by omega) (by decide)).bind ?_))
  rw [e1, e2, e3]
  have s1 := sel_length l0 u
  have s2 := sel_length l0 (1099511627775 - u % 1099511627776)
  exact parts_l0 l0 (by omega) u (by omega) (sel l0 u) (sel l0 (1099511627775 - u % 1099511627776)) l0 (by omega) (by omega) rfl l0 0 0 0 rfl (by omega) (by omega) (by omega) (by simp) (by simp)
end Go.Proofs.Yticaoeliokkifaa.Pure
