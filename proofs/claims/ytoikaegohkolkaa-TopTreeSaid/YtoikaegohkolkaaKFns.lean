/-
  What the functions of the package key, and of its reference, tell: as the plain laws' own words.
-/
import Derived.Test.YtoikaegohkolkaaEvs
namespace Go.Proofs.Ytoikaegohkolkaa.KFns
set_option linter.unusedSimpArgs false
set_option linter.unusedVariables false
open Go.RowKit Go.Proofs.Ytoikaegohkolkaa.Lib Go.Proofs.Ytoikaegohkolkaa.Plain Go.Proofs.Ytoikaegohkolkaa.Fns Go.Proofs.YtoikaegohkolkaaW.PrintWords Go.Proofs.YtoikaegohkolkaaW.PrintLast Go.Proofs.YtoikaegohkolkaaW.PrintMore

theorem rdOf_drop {l : List ByteArray} {i : Nat} {s : ByteArray} {t : List ByteArray} (h : l.drop i = s :: t) : rdOf ByteArray.empty l (i : Int) = s ∧ i < l.length ∧ l.drop (i + 1) = t := by
  have hl : i < l.length := by
    have := congrArg List.length h
    simp at this
    omega
  rw [List.drop_eq_getElem_cons hl] at h
  simp only [List.cons.injEq] at h
  refine ⟨?_, hl, h.2⟩
  unfold rdOf
  rw [Int.toNat_natCast, List.getD_eq_getElem?_getD, List.getElem?_eq_getElem hl]
  exact h.1
theorem sdrop_nil {l : List ByteArray} {i : Nat} (h : l.drop i = []) (hi : i ≤ l.length) : i = l.length := by
  have := List.drop_eq_nil_iff.1 h
  omega

/-! ### long, Right -/
def longB (l : List ByteArray) : Bool := decide (80 < l.length) || l.any fun s => decide (200 < s.size)
theorem long_false {l : List ByteArray} (h : longB l = false) : l.length ≤ 80 ∧ ∀ s ∈ l, s.size ≤ 200 := by
  unfold longB at h
  rw [Bool.or_eq_false_iff] at h
  refine ⟨by have := of_decide_eq_false h.1; omega, fun s hs => ?_⟩
  have := List.any_eq_false.1 h.2 s hs
  simp at this
  omega
theorem fits_l0 (l : List ByteArray) (hl : l.length ≤ 4) : ∀ (t : List ByteArray) (i : Nat), l.drop i = t → i ≤ l.length → Ev (fun k => key_fits.l0 k l (i : Int)) (t.all fun s => decide (s.size ≤ 16)) := by
  intro t
  induction t with
  | nil =>
    intro i h hi
    have := sdrop_nil h hi
    refine Ev.step (fun _ => by rw [key_fits.l0]) ?_
    exact ev_neg (by omega) (ev_now rfl)
  | cons s t ih =>
    intro i h hi
    obtain ⟨hr, hlt, ht⟩ := rdOf_drop h
    refine Ev.step (fun _ => by rw [key_fits.l0]) ?_
    refine ev_pos (by omega) (ev_pos (by omega) ?_)
    rw [hr]
    by_cases hs : (s.size : Int) > 16
    · refine ev_pos hs (ev_now ?_)
      rw [List.all_cons, decide_eq_false (by omega), Bool.false_and]
    · refine ev_neg hs ?_
      rw [List.all_cons, decide_eq_true (by omega), Bool.true_and, show wrap64 ((i : Int) + 1) = ((i + 1 : Nat) : Int) by rw [w64 (by omega) (by omega)]; omega]
      exact ih (i + 1) ht (by omega)
theorem ev_fits (l : List ByteArray) : Ev (fun k => key_fits.f k l) (fitsB l) := by
  unfold key_fits.f fitsB
  by_cases h : (l.length : Int) > 4
  · refine ev_pos h (ev_now ?_)
    rw [decide_eq_false (by omega), Bool.false_and]
  · refine ev_neg h ?_
    rw [decide_eq_true (by omega), Bool.true_and]
    exact fits_l0 l (by omega) l 0 rfl (by omega)
theorem fits_true {l : List ByteArray} (h : fitsB l = true) : l.length ≤ 4 ∧ ∀ s ∈ l, s.size ≤ 16 := by
  unfold fitsB at h
  rw [Bool.and_eq_true] at h
  refine ⟨of_decide_eq_true h.1, fun s hs => ?_⟩
  have := List.all_eq_true.1 h.2 s hs
  simpa using this
def rightB (l : List ByteArray) (z g : Int) : Bool := fitsB l && (decide (0 ≤ z) && (decide (z ≤ 1099511627776) && (decide (0 ≤ g) && decide (g ≤ 3))))
theorem right_true {l : List ByteArray} {z g : Int} (h : rightB l z g = true) : fitsB l = true ∧ 0 ≤ z ∧ z ≤ 1099511627776 ∧ 0 ≤ g ∧ g ≤ 3 := by
  unfold rightB at h
  simp only [Bool.and_eq_true, decide_eq_true_eq] at h
  exact h
theorem ev_right (l : List ByteArray) (z g : Int) : Ev (fun k => key_Right.f k l z g) (rightB l z g) := by
  unfold key_Right.f rightB
  refine (ev_fits l).bind ?_
  by_cases h : fitsB l = true
  · refine ev_pos h ?_
    rw [h, Bool.true_and]
    by_cases h1 : z ≥ 0
    · refine ev_pos h1 ?_
      rw [decide_eq_true (by omega : 0 ≤ z), Bool.true_and]
      by_cases h2 : z ≤ 1099511627776
      · refine ev_pos h2 ?_
        rw [decide_eq_true h2, Bool.true_and]
        by_cases h3 : g ≥ 0
        · refine ev_pos h3 (ev_now ?_)
          rw [decide_eq_true (by omega : 0 ≤ g), Bool.true_and]
          all_goals (first | rfl | exact decide_eq_decide.2 (by omega))
        · refine ev_neg h3 (ev_now ?_)
          rw [decide_eq_false (by omega : ¬ 0 ≤ g), Bool.false_and]
      · refine ev_neg h2 (ev_now ?_)
        rw [decide_eq_false h2, Bool.false_and]
    · refine ev_neg h1 (ev_now ?_)
      rw [decide_eq_false (by omega : ¬ 0 ≤ z), Bool.false_and]
  · refine ev_neg h (ev_now ?_)
    rw [Bool.eq_false_iff.2 h, Bool.false_and]
/-! ### Group, Write -/
/-- The texts of a group, each behind a mark. -/
def grs (l : List ByteArray) : List Int := l.flatMap fun s => 1 :: txt (bs s)
def grp (l : List ByteArray) : List Int := grs l ++ [0]
theorem grs_cons (s : ByteArray) (t : List ByteArray) : grs (s :: t) = 1 :: (txt (bs s) ++ grs t) := by simp [grs]
theorem grs_append (a b : List ByteArray) : grs (a ++ b) = grs a ++ grs b := by simp [grs]
theorem grs_one (s : ByteArray) : grs [s] = 1 :: txt (bs s) := by simp [grs]
theorem grs_length (m : Nat) : ∀ (l : List ByteArray), (∀ s ∈ l, s.size ≤ m) → (grs l).length ≤ (2 * m + 3) * l.length
  | [], _ => by simp [grs]
  | s :: t, h => by
    have h1 := grs_length m t (fun x hx => h x (List.mem_cons_of_mem _ hx))
    have h2 := txt_length_le (bs s)
    have h3 := h s (List.mem_cons_self ..)
    rw [bs_length] at h2
    rw [grs_cons, List.length_cons, List.length_append, List.length_cons, Nat.mul_succ]
    omega
theorem grs_byt (l : List ByteArray) : Byt (grs l) := by
  induction l with
  | nil => exact Byt.nil
  | cons s t ih => rw [grs_cons]; exact Byt.cons (by omega) ((txt_byt (bs_byt s)).append ih)
theorem grp_byt (l : List ByteArray) : Byt (grp l) := (grs_byt l).append (Byt.cons (by omega) Byt.nil)
theorem group_l0 (l : List ByteArray) (hl : l.length ≤ 1000) (hs : ∀ s ∈ l, s.size ≤ 1000) : ∀ (t : List ByteArray) (i : Nat) (x3 : List Int), l.drop i = t → i ≤ l.length → x3.length ≤ 3000 * i → Ev (fun k => key_group.l0 k x3 l (l.length : Int) (i : Int)) (x3 ++ grs t ++ [0]) := by
  intro t
  induction t with
  | nil =>
    intro i x3 h hi hx
    have := sdrop_nil h hi
    refine Ev.step (fun _ => by rw [key_group.l0]) ?_
    exact ev_neg (by omega) (ev_pos (by omega) (ev_now (by simp [grs])))
  | cons s t ih =>
    intro i x3 h hi hx
    obtain ⟨hr, hlt, ht⟩ := rdOf_drop h
    have hm : s ∈ l := List.mem_of_mem_drop (i := i) (by rw [h]; exact List.mem_cons_self ..)
    have hz := hs s hm
    have h2 := txt_length_le (bs s)
    rw [bs_length] at h2
    refine Ev.step (fun _ => by rw [key_group.l0]) ?_
    refine ev_pos (by omega) (ev_pos (by omega) (ev_pos (by omega) (ev_pos (by omega) ?_)))
    simp only [Option.bind_some, hr]
    refine (ev_text (by omega)).bind ?_
    refine ev_pos (by rw [List.length_append, List.length_singleton]; omega) ?_
    rw [show wrap64 ((i : Int) + 1) = ((i + 1 : Nat) : Int) by rw [w64 (by omega) (by omega)]; omega]
    have := ih (i + 1) (x3 ++ [1] ++ txt (bs s)) ht (by omega) (by simp only [List.length_append, List.length_singleton]; omega)
    rw [grs_cons]
    simpa using this
theorem ev_group {l : List ByteArray} (hl : l.length ≤ 1000) (hs : ∀ s ∈ l, s.size ≤ 1000) : Ev (fun k => key_group.f k l) (grp l) := by
  unfold key_group.f
  have := group_l0 l hl hs l 0 [] rfl (by omega) (by simp)
  simpa [grp] using this
def gr (l : List ByteArray) : List Int × Int := if fitsB l = true then (grp l, 0) else ([], 40)
/-- A key's bytes. -/
def kb (l : List ByteArray) (z g : Int) : List Int := grp l ++ (numb (ordn z) 8 ++ [g])
def wr (l : List ByteArray) (z g : Int) : List Int × Int := if rightB l z g = true then (kb l z g, 0) else ([], 40)
theorem kb_byt {l : List ByteArray} {z g : Int} (h : rightB l z g = true) : Byt (kb l z g) := by
  obtain ⟨_, _, _, h1, h2⟩ := right_true h
  exact (grp_byt l).append ((numb_byt _ _).append (Byt.cons (by omega) Byt.nil))
theorem wr_byt (l : List ByteArray) (z g : Int) : Byt (wr l z g).1 := by
  unfold wr
  split
  · exact kb_byt (by assumption)
  · exact Byt.nil
theorem grp_length {l : List ByteArray} (h : fitsB l = true) : (grp l).length ≤ 141 := by
  obtain ⟨h1, h2⟩ := fits_true h
  have h3 := grs_length 16 l h2
  have h4 : (2 * 16 + 3) * l.length ≤ 35 * 4 := Nat.mul_le_mul_left _ h1
  unfold grp
  rw [List.length_append, List.length_singleton]
  omega
theorem ev_write (l : List ByteArray) (z g : Int) : Ev (fun k => key_Write.f k l z g) (wr l z g) := by
  unfold key_Write.f wr
  refine (ev_right l z g).bind ?_
  by_cases h : rightB l z g = true
  · obtain ⟨hf, h0, h1, h2, h3⟩ := right_true h
    obtain ⟨h4, h5⟩ := fits_true hf
    have h6 := grp_length hf
    have h7 := numb_length (ordn z) 8
    refine ev_pos h ?_
    rw [if_pos h]
    refine (ev_group (by omega) (fun s hs => by have := h5 s hs; omega)).bind ?_
    refine (ev_number (by omega)).bind ?_
    refine ev_pos (by omega) ?_
    simp only [Option.bind_some]
    refine ev_pos (by simp only [List.length_append, List.length_singleton]; omega) (ev_now ?_)
    rw [show g % 256 = g by omega]
    unfold kb
    rw [List.append_assoc]
  · refine ev_neg h ?_
    rw [if_neg h]
    exact ev_now rfl
end Go.Proofs.Ytoikaegohkolkaa.KFns
