/-
  A short number's bytes are as many as its sevens of digits; a greater number's are not fewer; cut, it is none.
-/
import Derived.Test.YtjgcllkcppmmaaaLibLCodeLengths
import Derived.Test.YtjgcllkcppmmaaaEvs
namespace Go.Proofs.Ytjgcllkcppmmaaa.Pure
set_option linter.unusedSimpArgs false
set_option linter.unusedVariables false
open Go.RowKit Go.Proofs.Ytjgcllkcppmmaaa.Lib Go.Proofs.Ytjgcllkcppmmaaa.Plain Go.Proofs.Ytjgcllkcppmmaaa.Fns Go.Proofs.YtjgcllkcppmmaaaW.PrintWords Go.Proofs.YtjgcllkcppmmaaaW.PrintLast

theorem count_ends (v u : Nat) (cut : Int) (x y : List Int) : ∀ (m w n : Nat), w < 128 ^ m → n + m ≤ 100 →
    Ev (fun k => if (x.length : Int) = ((sevens w n : Nat) : Int) then (if (v : Int) ≤ (u : Int) then (rickyardlaw04_CodeLengths.j1 k cut x (decide ((x.length : Int) > (y.length : Int)))) else (rickyardlaw04_CodeLengths.j1 k cut x false)) else (rickyardlaw04_CodeLengths.j1 k cut x true)) true →
    Ev (fun k => rickyardlaw04_CodeLengths.l0 k (v : Int) (u : Int) cut x y (n : Int) (w : Int)) true := by
  intro m
  induction m with
  | zero =>
    intro w n hw hn h
    obtain rfl : w = 0 := by simpa using hw
    rw [sevens, if_pos rfl] at h
    exact Ev.step (fun _ => by rw [rickyardlaw04_CodeLengths.l0]) (ev_neg (by decide) h)
  | succ m ih =>
    intro w n hw hn h
    by_cases h0 : w = 0
    · subst h0
      rw [sevens, if_pos rfl] at h
      exact Ev.step (fun _ => by rw [rickyardlaw04_CodeLengths.l0]) (ev_neg (by decide) h)
    · rw [sevens, if_neg h0] at h
      refine Ev.step (fun _ => by rw [rickyardlaw04_CodeLengths.l0]) (ev_pos (by omega) ?_)
      rw [w64 (by omega) (by omega), show (n : Int) + 1 = ((n + 1 : Nat) : Int) by omega, show (w : Int) / 128 = ((w / 128 : Nat) : Int) by omega]
      exact ih (w / 128) (n + 1) (by rw [Nat.pow_succ] at hw; omega) (by omega) h
theorem CodeLengths : rickyardlaw04_CodeLengths.Pure := by
  intro a b cut ha hb hc
  obtain ⟨v, rfl⟩ := Int.eq_ofNat_of_zero_le (u64_of_wf ha).1
  obtain ⟨u, rfl⟩ := Int.eq_ofNat_of_zero_le (u64_of_wf hb).1
  have hv : v < 18446744073709551616 := by have := (u64_of_wf ha).2; omega
  have hu : u < 18446744073709551616 := by have := (u64_of_wf hb).2; omega
  apply Ev.rounds
  unfold rickyardlaw04_CodeLengths.f
  refine (ev_short hv).bind ?_
  refine (ev_short hu).bind ?_
  have h128 : (v : Int) / 128 = ((v / 128 : Nat) : Int) := by omega
  rw [h128]
  have hl := sh_length_le 9 v (pow10 hv)
  refine count_ends v u cut (sh v) (sh u) 10 (v / 128) 1 (by have := pow10 hv; omega) (by omega) ?_
  rw [sevens_sh v 0, Nat.zero_add]
  have hj2 : Ev (fun k => rickyardlaw04_CodeLengths.j2 k cut (sh v) true) true := Ev.step (fun _ => by rw [rickyardlaw04_CodeLengths.j2]) (ev_pos rfl ev_aliveSome)
  have hj1 : Ev (fun k => rickyardlaw04_CodeLengths.j1 k cut (sh v) false) true := by
    refine Ev.step (fun _ => by rw [rickyardlaw04_CodeLengths.j1]) (ev_neg (by decide) ?_)
    by_cases h0 : cut < 0
    · exact ev_pos h0 hj2
    refine ev_neg h0 ?_
    by_cases h1 : cut ≥ ((sh v).length : Int)
    · rw [decide_eq_true h1]; exact hj2
    rw [decide_eq_false h1]
    refine Ev.step (fun _ => by rw [rickyardlaw04_CodeLengths.j2]) (ev_neg (by decide) (ev_pos (by omega) (ev_pos (by omega) ?_)))
    refine (ev_readShort ((sh_byt v).take _) (by rw [List.length_take]; omega)).bind ?_
    rw [sh_cut 9 0 v cut.toNat 0 (pow10 hv) (by omega) (by omega)]
    exact ev_alive.bind (ev_pos rfl (ev_now rfl))
  refine ev_pos (by omega) ?_
  by_cases hle : (v : Int) ≤ (u : Int)
  · refine ev_pos hle ?_
    rw [decide_eq_false (by have := sh_length_mono v u (by omega); omega)]
    exact hj1
  · exact ev_neg hle hj1

end Go.Proofs.Ytjgcllkcppmmaaa.Pure
