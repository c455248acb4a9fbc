/-
  The order of keys, as their bytes have it; plain laws.
-/
import Derived.Test.YtoikaegohkolkaaKOrder
namespace Go.Proofs.Ytoikaegohkolkaa.KFns
set_option linter.unusedSimpArgs false
set_option linter.unusedVariables false
open Go.RowKit Go.Proofs.Ytoikaegohkolkaa.Lib Go.Proofs.Ytoikaegohkolkaa.Plain Go.Proofs.Ytoikaegohkolkaa.Fns Go.Proofs.YtoikaegohkolkaaW.PrintWords Go.Proofs.YtoikaegohkolkaaW.PrintLast Go.Proofs.YtoikaegohkolkaaW.PrintMore
theorem isRead_len {b : List Int} {r : List ByteArray × Int × Int × Int} (h : IsRead [] b r) : r.1.length ≤ 4 := by
  rcases h with ⟨l, z, g, h1, h2, h3⟩ | ⟨h1, h2⟩
  · subst h3
    exact (fits_true (right_true h1).1).1
  · subst h2; simp
theorem kb_length {l : List ByteArray} {z g : Int} (h : rightB l z g = true) : (kb l z g).length ≤ 150 := by
  have := grp_length (right_true h).1
  unfold kb
  rw [List.length_append, List.length_append, numb_length, List.length_singleton]
  omega
theorem grs_lts : ∀ (l m : List ByteArray) (p q : List Int), lts (grs l ++ (0 :: p)) (grs m ++ (0 :: q)) = if ordL l m = 0 then lts p q else decide (ordL l m < 0)
  | [], [], p, q => by simp [grs, ordL, lts]
  | [], s :: m, p, q => by rw [grs_cons]; simp [grs, ordL, lts]
  | s :: l, [], p, q => by rw [grs_cons]; simp [grs, ordL, lts]
  | s :: l, t :: m, p, q => by
    rw [grs_cons, grs_cons, List.cons_append, List.cons_append, List.append_assoc, List.append_assoc, lts]
    simp only [Int.lt_irrefl, decide_false, Bool.false_or, decide_true, Bool.true_and]
    rw [txt_lts _ _ _ _ (bs_byt s) (bs_byt t), grs_lts l m p q]
    unfold ordL
    by_cases h1 : lts (bs s) (bs t) = true
    · simp [h1]
    · simp only [if_neg h1]
      rw [Bool.eq_false_iff.2 h1, Bool.false_or]
      by_cases h2 : lts (bs t) (bs s) = true
      · have hne : ¬ bs s = bs t := by
          intro e
          rw [e, lts_irrefl] at h2
          exact absurd h2 (by decide)
        simp [h2, hne]
      · have he := lts_total _ _ (Bool.eq_false_iff.2 h1) (Bool.eq_false_iff.2 h2)
        simp only [if_neg h2]
        rw [decide_eq_true he, Bool.true_and]
        cases l <;> cases m <;> rfl
theorem lts_same_length : ∀ (a b x y : List Int), a.length = b.length → lts (a ++ x) (b ++ y) = (lts a b || (decide (a = b) && lts x y))
  | [], [], x, y, _ => by simp [lts]
  | [], _ :: _, _, _, h => by simp at h
  | _ :: _, [], _, _, h => by simp at h
  | c :: a, d :: b, x, y, h => by
    have h' : a.length = b.length := by simpa using h
    rw [List.cons_append, List.cons_append, lts, lts, lts_same_length a b x y h']
    by_cases h1 : c < d
    · simp [h1]
    · by_cases h2 : c = d
      · subst h2; simp
      · simp [h1, h2]
theorem kb_lts {l m : List ByteArray} {z g z' g' : Int} (h : rightB l z g = true) (h' : rightB m z' g' = true) : lts (kb l z g) (kb m z' g') = lessB l z g m z' g' := by
  rw [kb_eq, kb_eq, grs_lts]
  unfold lessB
  by_cases ho : ordL l m = 0
  · rw [if_pos ho, if_pos ho, lts_same_length _ _ _ _ (by rw [numb_length, numb_length]), less_number (right_i64 h) (right_i64 h')]
    by_cases hz : z = z'
    · subst hz
      simp [lts]
    · have hn : ¬ numb (ordn z) 8 = numb (ordn z') 8 := fun e => hz (ordn_inj (right_i64 h) (right_i64 h') e)
      simp [hz, hn]
  · rw [if_neg ho, if_neg ho]
theorem kb_front {l m : List ByteArray} {z g z' g' : Int} (h : (kb m z' g').take (kb l z g).length = kb l z g) : (kb m z' g').length ≤ (kb l z g).length := by
  have e : kb l z g ++ (kb m z' g').drop (kb l z g).length = kb m z' g' := by
    conv => rhs; rw [← List.take_append_drop (kb l z g).length (kb m z' g')]
    rw [h]
  generalize (kb m z' g').drop (kb l z g).length = r at e
  have e2 := e
  rw [kb_eq l, kb_eq m, List.append_assoc, List.cons_append] at e2
  obtain ⟨_, h2⟩ := grp_inj _ _ _ _ e2
  have h3 := congrArg List.length h2
  simp only [List.length_append, numb_length, List.length_singleton] at h3
  have h4 := congrArg List.length e
  rw [List.length_append] at h4
  omega
theorem lts_trans : ∀ (x y z : List Int), lts x y = true → lts y z = true → lts x z = true
  | x, [], _, h, _ => by cases x <;> simp [lts] at h
  | _, y :: ys, [], _, h => by simp [lts] at h
  | [], y :: ys, z :: zs, _, _ => rfl
  | a :: x, b :: y, c :: z, h, h' => by
    simp only [lts, Bool.or_eq_true, Bool.and_eq_true, decide_eq_true_eq] at h h' ⊢
    rcases h with h | ⟨rfl, h⟩
    · rcases h' with h' | ⟨rfl, h'⟩
      · exact .inl (by omega)
      · exact .inl h
    · rcases h' with h' | ⟨rfl, h'⟩
      · exact .inl h'
      · exact .inr ⟨rfl, lts_trans x y z h h'⟩
/-- The bytes of a key with a last mark of its own: they hold the order for all numbers. -/
theorem ordL_lts (l m : List ByteArray) : lts (grs l ++ [0]) (grs m ++ [0]) = decide (ordL l m < 0) := by
  rw [grs_lts]
  by_cases h : ordL l m = 0
  · rw [if_pos h, h]; rfl
  · rw [if_neg h]
theorem ordL_trans {l m n : List ByteArray} (h : ordL l m < 0) (h' : ordL m n < 0) : ordL l n < 0 := by
  have h1 := ordL_lts l m
  have h2 := ordL_lts m n
  have h3 := ordL_lts l n
  rw [decide_eq_true h] at h1
  rw [decide_eq_true h'] at h2
  rw [lts_trans _ _ _ h1 h2] at h3
  exact of_decide_eq_true h3.symm
theorem lessB_irrefl (l : List ByteArray) (z g : Int) : lessB l z g l z g = false := by
  unfold lessB
  rw [if_pos (ordL_refl l), if_pos rfl]
  exact decide_eq_false (by omega)
theorem lessB_iff {l m : List ByteArray} {z g z' g' : Int} : lessB l z g m z' g' = true ↔ ordL l m < 0 ∨ (l = m ∧ (z < z' ∨ (z = z' ∧ g < g'))) := by
  unfold lessB
  by_cases h : ordL l m = 0
  · have he := ordL_zero h
    rw [if_pos h]
    by_cases h2 : z = z'
    · rw [if_pos h2, decide_eq_true_eq]
      constructor
      · intro h3; exact .inr ⟨he, .inr ⟨h2, h3⟩⟩
      · rintro (h3 | ⟨_, h3 | ⟨_, h3⟩⟩)
        · omega
        · omega
        · exact h3
    · rw [if_neg h2, decide_eq_true_eq]
      constructor
      · intro h3; exact .inr ⟨he, .inl h3⟩
      · rintro (h3 | ⟨_, h3 | ⟨h3, _⟩⟩)
        · omega
        · exact h3
        · exact absurd h3 h2
  · rw [if_neg h, decide_eq_true_eq]
    constructor
    · intro h3; exact .inl h3
    · rintro (h3 | ⟨h3, _⟩)
      · exact h3
      · exact absurd (ordL_iff.2 h3) h
theorem lessB_asymm {l m : List ByteArray} {z g z' g' : Int} (h : lessB l z g m z' g' = true) : lessB m z' g' l z g = false := by
  rw [Bool.eq_false_iff]
  intro h'
  have hf := ordL_flip l m
  rcases lessB_iff.1 h with h1 | ⟨rfl, h1⟩ <;> rcases lessB_iff.1 h' with h2 | ⟨h2, h3⟩
  · omega
  · rw [h2, ordL_refl] at h1; omega
  · rw [ordL_refl] at h2; omega
  · omega
theorem lessB_third {l m : List ByteArray} {z g z' g' : Int} (h : lessB l z g m z' g' = false) : lessB m z' g' l z g = !decide (l = m ∧ z = z' ∧ g = g') := by
  by_cases hs : l = m ∧ z = z' ∧ g = g'
  · obtain ⟨rfl, rfl, rfl⟩ := hs
    rw [lessB_irrefl]; simp
  · rw [decide_eq_false hs, Bool.not_false]
    have hn : ¬ (ordL l m < 0 ∨ (l = m ∧ (z < z' ∨ (z = z' ∧ g < g')))) := fun hh => by rw [lessB_iff.2 hh] at h; exact absurd h (by decide)
    refine lessB_iff.2 ?_
    have hf := ordL_flip l m
    by_cases he : l = m
    · subst he
      refine .inr ⟨rfl, ?_⟩
      have h1 : ¬ (z < z' ∨ (z = z' ∧ g < g')) := fun hh => hn (.inr ⟨rfl, hh⟩)
      have h2 : ¬ (z = z' ∧ g = g') := fun hh => hs ⟨rfl, hh⟩
      omega
    · have h0 : ordL l m ≠ 0 := fun e => he (ordL_zero e)
      have h1 : ¬ ordL l m < 0 := fun e => hn (.inl e)
      exact .inl (by omega)
theorem lessB_trans {l m n : List ByteArray} {z g z' g' z2 g2 : Int} (h : lessB l z g m z' g' = true) (h' : lessB m z' g' n z2 g2 = true) : lessB l z g n z2 g2 = true := by
  refine lessB_iff.2 ?_
  rcases lessB_iff.1 h with h1 | ⟨rfl, h1⟩ <;> rcases lessB_iff.1 h' with h2 | ⟨rfl, h2⟩
  · exact .inl (ordL_trans h1 h2)
  · exact .inl h1
  · exact .inl h2
  · exact .inr ⟨rfl, by omega⟩
end Go.Proofs.Ytoikaegohkolkaa.KFns
