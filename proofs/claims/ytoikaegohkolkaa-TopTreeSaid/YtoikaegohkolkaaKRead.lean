/-
  What a key's bytes say: the reader, and the reference's, tell the same: the key whose bytes they are, if there is one.
-/
import Derived.Test.YtoikaegohkolkaaKFns
namespace Go.Proofs.Ytoikaegohkolkaa.KFns
set_option linter.unusedSimpArgs false
set_option linter.unusedVariables false
open Go.RowKit Go.Proofs.Ytoikaegohkolkaa.Lib Go.Proofs.Ytoikaegohkolkaa.Plain Go.Proofs.Ytoikaegohkolkaa.Fns Go.Proofs.YtoikaegohkolkaaW.PrintWords Go.Proofs.YtoikaegohkolkaaW.PrintLast Go.Proofs.YtoikaegohkolkaaW.PrintMore

theorem val_inj : ∀ (x y : List Int), Byt x → Byt y → x.length = y.length → val x = val y → x = y
  | [], [], _, _, _, _ => rfl
  | [], _ :: _, _, _, h, _ => by simp at h
  | _ :: _, [], _, _, h, _ => by simp at h
  | a :: x, b :: y, hx, hy, h, hv => by
    have hl : x.length = y.length := by simpa using h
    rw [val_cons, val_cons, hl] at hv
    have h1 := val_bound x hx.tail
    have h2 := val_bound y hy.tail
    rw [hl] at h1
    generalize (256 : Int) ^ y.length = P at hv h1 h2
    have hab : a = b := by
      rcases Int.lt_trichotomy a b with hlt | heq | hgt
      · exfalso
        have := Int.mul_le_mul_of_nonneg_right (show a + 1 ≤ b by omega) (show 0 ≤ P by omega)
        rw [Int.add_mul] at this
        omega
      · exact heq
      · exfalso
        have := Int.mul_le_mul_of_nonneg_right (show b + 1 ≤ a by omega) (show 0 ≤ P by omega)
        rw [Int.add_mul] at this
        omega
    subst hab
    rw [val_inj x y hx.tail hy.tail hl (by omega)]
theorem numb_val {l : List Int} (hb : Byt l) (hl : l.length = 8) : numb (ordn (val l - 9223372036854775808)) 8 = l := by
  have h := val_bound l hb
  rw [hl] at h
  refine val_inj _ _ (numb_byt _ _) hb (by rw [numb_length, hl]) ?_
  rw [val_numb]
  unfold ordn
  have e : (2 : Nat) ^ (8 * 8) = 18446744073709551616 := rfl
  have e2 : (256 : Int) ^ 8 = 18446744073709551616 := rfl
  rw [e]
  omega
theorem ordn_inj {a b : Int} (ha : -9223372036854775808 ≤ a ∧ a < 9223372036854775808) (hb : -9223372036854775808 ≤ b ∧ b < 9223372036854775808) (h : numb (ordn a) 8 = numb (ordn b) 8) : a = b := by
  have := numb_inj _ _ 8 h
  have e : (2 : Nat) ^ (8 * 8) = 18446744073709551616 := rfl
  rw [e] at this
  unfold ordn at this
  omega
theorem grp_inj : ∀ (l m : List ByteArray) (p q : List Int), grs l ++ (0 :: p) = grs m ++ (0 :: q) → l = m ∧ p = q
  | [], [], p, q, h => by simp [grs] at h; exact ⟨rfl, h⟩
  | [], s :: m, p, q, h => by rw [grs_cons] at h; simp [grs] at h
  | s :: l, [], p, q, h => by rw [grs_cons] at h; simp [grs] at h
  | s :: l, t :: m, p, q, h => by
    rw [grs_cons, grs_cons] at h
    simp only [List.cons_append, List.cons.injEq, true_and, List.append_assoc] at h
    obtain ⟨h1, h2⟩ := txt_inj (bs_byt s) (bs_byt t) h
    obtain ⟨rfl, rfl⟩ := grp_inj l m p q h2
    exact ⟨by rw [bs_inj h1], rfl⟩
theorem kb_eq (l : List ByteArray) (z g : Int) : kb l z g = grs l ++ (0 :: (numb (ordn z) 8 ++ [g])) := by unfold kb grp; simp
theorem kb_nil (z g : Int) : kb [] z g = 0 :: (numb (ordn z) 8 ++ [g]) := by rw [kb_eq]; rfl
theorem kb_cons (s : ByteArray) (l : List ByteArray) (z g : Int) : kb (s :: l) z g = 1 :: (txt (bs s) ++ kb l z g) := by rw [kb_eq, kb_eq, grs_cons]; simp
theorem kb_append (a l : List ByteArray) (z g : Int) : kb (a ++ l) z g = grs a ++ kb l z g := by rw [kb_eq, kb_eq, grs_append, List.append_assoc]
theorem right_i64 {l : List ByteArray} {z g : Int} (h : rightB l z g = true) : -9223372036854775808 ≤ z ∧ z < 9223372036854775808 := by
  obtain ⟨_, h0, h1, _⟩ := right_true h
  omega
theorem kb_inj' {l m : List ByteArray} {z g z' g' : Int} (hz : -9223372036854775808 ≤ z ∧ z < 9223372036854775808) (hz' : -9223372036854775808 ≤ z' ∧ z' < 9223372036854775808) (h : kb l z g = kb m z' g') : l = m ∧ z = z' ∧ g = g' := by
  rw [kb_eq, kb_eq] at h
  obtain ⟨h1, h2⟩ := grp_inj _ _ _ _ h
  obtain ⟨h3, h4⟩ := List.append_inj h2 (by rw [numb_length, numb_length])
  exact ⟨h1, ordn_inj hz hz' h3, by simpa using h4⟩

/-- The key whose bytes these are, behind the texts that were read; or that there is none. -/
def IsRead (acc : List ByteArray) (rest : List Int) (r : List ByteArray × Int × Int × Int) : Prop :=
  (∃ l z g, rightB (acc ++ l) z g = true ∧ rest = kb l z g ∧ r = (acc ++ l, z, g, 0)) ∨ ((∀ l z g, rightB (acc ++ l) z g = true → rest ≠ kb l z g) ∧ r = ([], 0, 0, 40))
theorem isRead_uniq {acc : List ByteArray} {rest : List Int} {r r' : List ByteArray × Int × Int × Int} (h : IsRead acc rest r) (h' : IsRead acc rest r') : r = r' := by
  rcases h with ⟨l, z, g, h1, h2, h3⟩ | ⟨h1, h2⟩ <;> rcases h' with ⟨l', z', g', h1', h2', h3'⟩ | ⟨h1', h2'⟩
  · obtain ⟨rfl, rfl, rfl⟩ := kb_inj' (right_i64 h1) (right_i64 h1') (h2.symm.trans h2')
    rw [h3, h3']
  · exact absurd h2 (h1' l z g h1)
  · exact absurd h2' (h1 l' z' g' h1')
  · rw [h2, h2']
theorem isRead_cons {acc : List ByteArray} {s : ByteArray} {rest : List Int} {r : List ByteArray × Int × Int × Int} (h : IsRead (acc ++ [s]) rest r) : IsRead acc (1 :: (txt (bs s) ++ rest)) r := by
  rcases h with ⟨l, z, g, h1, h2, h3⟩ | ⟨h1, h2⟩
  · refine .inl ⟨s :: l, z, g, by simpa using h1, by rw [kb_cons, h2], by simpa using h3⟩
  · refine .inr ⟨fun L z g hr he => ?_, h2⟩
    cases L with
    | nil => rw [kb_nil] at he; simp at he
    | cons s' l' =>
      rw [kb_cons] at he
      simp only [List.cons.injEq, true_and] at he
      obtain ⟨e1, e2⟩ := txt_inj (bs_byt s) (bs_byt s') he
      have := bs_inj e1
      subst this
      exact h1 l' z g (by simpa using hr) e2
theorem isRead_none {acc : List ByteArray} {rest : List Int} (h0 : ∀ z g, rightB acc z g = true → rest ≠ 0 :: (numb (ordn z) 8 ++ [g])) (h1 : ∀ (s : ByteArray) (t : List Int), rest ≠ 1 :: (txt (bs s) ++ t)) : IsRead acc rest ([], 0, 0, 40) := by
  refine .inr ⟨fun L z g hr he => ?_, rfl⟩
  cases L with
  | nil => rw [kb_nil] at he; exact h0 z g (by simpa using hr) he
  | cons s l => rw [kb_cons] at he; exact h1 _ _ he
theorem isRead_end {acc : List ByteArray} {c : Int} {t : List Int} (ht : Byt t) (hl : t.length = 9) (hc : c = 0) (hr : rightB acc (val (t.take 8) - 9223372036854775808) (rd t 8) = true) : IsRead acc (c :: t) (acc, val (t.take 8) - 9223372036854775808, rd t 8, 0) ∧ c :: t = 0 :: (numb (ordn (val (t.take 8) - 9223372036854775808)) 8 ++ [rd t 8]) := by
  subst hc
  have h8 : (t.take 8).length = 8 := by simp; omega
  have e1 := numb_val (ht.take 8) h8
  have e2 : t = t.take 8 ++ [rd t 8] := by
    have h9 : t.drop 8 = [rd t 8] := by
      rw [List.drop_eq_getElem_cons (by omega), List.drop_of_length_le (by omega)]
      unfold rd
      rw [show (8 : Int).toNat = 8 from rfl, List.getD_eq_getElem?_getD, List.getElem?_eq_getElem (by omega)]
      rfl
    rw [← h9, List.take_append_drop]
  have e3 : (0 : Int) :: t = 0 :: (numb (ordn (val (t.take 8) - 9223372036854775808)) 8 ++ [rd t 8]) := by rw [e1, ← e2]
  exact ⟨.inl ⟨[], _, _, by simpa using hr, by rw [kb_nil]; exact e3, by simp⟩, e3⟩
theorem end_form {t : List Int} (ht : Byt t) (hl : t.length = 9) : t = numb (ordn (val (t.take 8) - 9223372036854775808)) 8 ++ [rd t 8] := by
  have h8 : (t.take 8).length = 8 := by simp; omega
  have e1 := numb_val (ht.take 8) h8
  have h9 : t.drop 8 = [rd t 8] := by
    rw [List.drop_eq_getElem_cons (by omega), List.drop_of_length_le (by omega)]
    unfold rd
    rw [show (8 : Int).toNat = 8 from rfl, List.getD_eq_getElem?_getD, List.getElem?_eq_getElem (by omega)]
    rfl
  rw [e1, ← h9, List.take_append_drop]
theorem isRead_wrong {acc : List ByteArray} {c : Int} {t : List Int} (ht : Byt t) (hl : t.length = 9) (hc1 : c ≠ 1) (hr : ¬ (c = 0 ∧ rightB acc (val (t.take 8) - 9223372036854775808) (rd t 8) = true)) : IsRead acc (c :: t) ([], 0, 0, 40) := by
  refine isRead_none (fun z g h he => ?_) (fun s u he => ?_)
  · simp only [List.cons.injEq] at he
    obtain ⟨rfl, he⟩ := he
    have e := end_form ht hl
    rw [e] at he
    obtain ⟨h3, h4⟩ := List.append_inj he (by rw [numb_length, numb_length])
    have hb := val_bound _ (ht.take 8)
    have h8 : (t.take 8).length = 8 := by simp; omega
    rw [h8] at hb
    have e2 : (256 : Int) ^ 8 = 18446744073709551616 := rfl
    have ez := ordn_inj (by omega) (right_i64 h) h3
    have eg : rd t 8 = g := by simpa using h4
    exact hr ⟨rfl, by rw [ez, eg]; exact h⟩
  · simp only [List.cons.injEq] at he
    exact hc1 he.1
theorem isRead_length {acc : List ByteArray} {c : Int} {t : List Int} (hl : t.length ≠ 9) (hc1 : c ≠ 1) : IsRead acc (c :: t) ([], 0, 0, 40) := by
  refine isRead_none (fun z g h he => ?_) (fun s u he => ?_)
  · simp only [List.cons.injEq] at he
    have := congrArg List.length he.2
    rw [List.length_append, numb_length, List.length_singleton] at this
    omega
  · simp only [List.cons.injEq] at he
    exact hc1 he.1
theorem isRead_text {acc : List ByteArray} {t : List Int} (h : (rtx t [] 0).2.2 ≠ 0) : IsRead acc (1 :: t) ([], 0, 0, 40) := by
  refine isRead_none (fun z g _ he => ?_) (fun s u he => ?_)
  · simp at he
  · simp only [List.cons.injEq, true_and] at he
    rw [he, rtx_txt] at h
    exact h rfl
theorem isRead_empty (acc : List ByteArray) : IsRead acc [] ([], 0, 0, 40) := isRead_none (fun _ _ _ he => by simp at he) (fun _ _ he => by simp at he)
theorem text_back {t : List Int} (ht : Byt t) (h : (rtx t [] 0).2.2 = 0) : ∃ (s : ByteArray) (j : Nat), rtx t [] 0 = (s, (j : Int), 0) ∧ j ≤ t.length ∧ 2 ≤ j ∧ t = txt (bs s) ++ t.drop j := by
  obtain ⟨l, j, h1, h2, h3, h4, h5, h6⟩ := rtx_back t.length t [] 0 (rtx t [] 0).1 (rtx t [] 0).2.1 (Nat.le_refl _) (by
    generalize rtx t [] 0 = q at h
    obtain ⟨a, b, c⟩ := q
    simp at h
    rw [h])
  have e : rtx t [] 0 = ((rtx t [] 0).1, (rtx t [] 0).2.1, (rtx t [] 0).2.2) := rfl
  refine ⟨(rtx t [] 0).1, j, by rw [e, h5, h]; simp, h3, h4, ?_⟩
  rw [h1, List.nil_append, bs_strOfNums (h6 ht), h2, List.take_append_drop]

/-! ### Read -/
theorem j3_true (b : List Int) (x : Int) (acc : List ByteArray) : Ev (fun k => key_Read.j3 k b x true acc 0 0) ([], 0, 0, 40) :=
  Ev.step (fun _ => by rw [key_Read.j3]) (ev_pos rfl (ev_now rfl))
theorem j2_false (b : List Int) (x : Int) (acc : List ByteArray) : Ev (fun k => key_Read.j2 k b x false acc 0 0) ([], 0, 0, 40) :=
  Ev.step (fun _ => by rw [key_Read.j2]) (ev_neg (by decide) (j3_true b x acc))
theorem rd_drop_at {b : List Int} {i : Nat} {c : Int} {t : List Int} (h : b.drop i = c :: t) (j : Nat) : rd t (j : Int) = rd b ((i + 1 + j : Nat) : Int) := by
  have h2 := (rd_drop h).2.2
  unfold rd
  rw [Int.toNat_natCast, Int.toNat_natCast, List.getD_eq_getElem?_getD, List.getD_eq_getElem?_getD, ← h2, List.getElem?_drop]
theorem rd_byt {b : List Int} (hb : Byt b) {j : Int} (h0 : 0 ≤ j) (h1 : j < (b.length : Int)) : 0 ≤ rd b j ∧ rd b j < 256 := by
  obtain ⟨n, rfl⟩ := Int.eq_ofNat_of_zero_le h0
  have hn : n < b.length := by omega
  have : rd b (n : Int) = b[n] := by
    unfold rd
    rw [Int.toNat_natCast, List.getD_eq_getElem?_getD, List.getElem?_eq_getElem hn]
    rfl
  rw [this]
  exact hb _ (List.getElem_mem hn)
theorem gran_at {b : List Int} {i : Nat} {c : Int} {t : List Int} (hd : b.drop i = c :: t) (hb : Byt b) (h9 : t.length = 9) : wrap64 (rd b ((i + 9 : Nat) : Int)) = rd t 8 := by
  have hl : i + 9 < b.length := by
    have := congrArg List.length hd
    simp at this
    omega
  have hbd := rd_byt hb (Int.natCast_nonneg (i + 9)) (Int.ofNat_lt.2 hl)
  have e := rd_drop_at hd 8
  have e2 : i + 1 + 8 = i + 9 := by clear e hbd; omega
  rw [e2] at e
  refine Eq.trans ?_ e.symm
  clear e
  generalize rd b ((i + 9 : Nat) : Int) = x at hbd ⊢
  exact w64 (by omega) (by omega)
theorem read_l0 (b : List Int) (hb : Byt b) (hlen : b.length ≤ 1000000) : ∀ (n : Nat) (acc : List ByteArray) (i : Nat), b.length - i ≤ n → i ≤ b.length → acc.length ≤ i → ∃ r, Ev (fun k => key_Read.l0 k b (i : Int) true acc 0 0) r ∧ IsRead acc (b.drop i) r := by
  intro n
  induction n with
  | zero =>
    intro acc i hn hi ha
    refine ⟨([], 0, 0, 40), Ev.step (fun _ => by rw [key_Read.l0]) (ev_pos (by omega) (Ev.step (fun _ => by rw [key_Read.j1]) (ev_pos rfl (j2_false b _ acc)))), ?_⟩
    rw [List.drop_of_length_le (by omega)]
    exact isRead_empty acc
  | succ n ih =>
    intro acc i hn hi ha
    cases hd : b.drop i with
    | nil =>
      have := drop_nil_of hd hi
      exact ⟨([], 0, 0, 40), Ev.step (fun _ => by rw [key_Read.l0]) (ev_pos (by omega) (Ev.step (fun _ => by rw [key_Read.j1]) (ev_pos rfl (j2_false b _ acc)))), isRead_empty acc⟩
    | cons c t =>
      obtain ⟨hr, hlt, ht⟩ := rd_drop hd
      have hbt : Byt (c :: t) := hd ▸ hb.drop i
      have hc := hbt.head
      have hT := hbt.tail
      have hlt2 : t.length = b.length - (i + 1) := by rw [← ht, List.length_drop]
      have W1 : Aside0 (wrap64 ((i : Int) + 1) = ((i + 1 : Nat) : Int)) := ⟨by rw [w64 (by omega) (by omega)]; omega⟩
      by_cases hc1 : c > 1
      · refine ⟨([], 0, 0, 40), Ev.step (fun _ => by rw [key_Read.l0]) (ev_neg (by omega) (ev_pos (by omega) (ev_pos (by omega) ?_))), ?_⟩
        · rw [hr, decide_eq_true hc1]
          exact Ev.step (fun _ => by rw [key_Read.j1]) (ev_pos rfl (j2_false b _ acc))
        · exact isRead_none (fun z g _ he => by simp at he; omega) (fun s u he => by simp at he; omega)
      · have hfirst : ∀ r, Ev (fun k => key_Read.j1 k b (i : Int) true false acc 0 0) r → Ev (fun k => key_Read.l0 k b (i : Int) true acc 0 0) r := by
          intro r h
          refine Ev.step (fun _ => by rw [key_Read.l0]) (ev_neg (by omega) (ev_pos (by omega) (ev_pos (by omega) ?_)))
          rw [hr, decide_eq_false hc1]
          exact h
        by_cases hc0 : c = 0
        · have hj2 : ∀ r, Ev (fun k => key_Read.j3 k b ((i + 1 : Nat) : Int) ((b.length : Int) != wrap64 (((i + 1 : Nat) : Int) + 9)) acc 0 0) r → Ev (fun k => key_Read.l0 k b (i : Int) true acc 0 0) r := by
            intro r h
            refine hfirst r (Ev.step (fun _ => by rw [key_Read.j1]) (ev_neg (by decide) (ev_pos (by omega) (ev_pos (by omega) ?_))))
            rw [hr, W1.out]
            exact ev_pos hc0 (Ev.step (fun _ => by rw [key_Read.j2]) (ev_pos rfl h))
          by_cases h9 : t.length = 9
          · have hflag : ((b.length : Int) != wrap64 (((i + 1 : Nat) : Int) + 9)) = false := by
              rw [w64 (by omega) (by omega)]
              simp; omega
            have W2 : Aside0 (wrap64 (((i + 1 : Nat) : Int) + 8) = ((i + 9 : Nat) : Int)) := ⟨by rw [w64 (by omega) (by omega)]; omega⟩
            have HG := Aside0.mk (gran_at hd hb h9)
            have hn : rnum t = (val (t.take 8) - 9223372036854775808, 8, 0) := by unfold rnum; rw [if_neg (by omega)]
            by_cases hR : rightB acc (val (t.take 8) - 9223372036854775808) (rd t 8) = true
            · refine ⟨_, hj2 (acc, val (t.take 8) - 9223372036854775808, rd t 8, 0) ?_, (isRead_end hT h9 hc0 hR).1⟩
              rw [hflag]
              refine Ev.step (fun _ => by rw [key_Read.j3]) (ev_neg (by decide) (ev_pos (by omega) (ev_pos (by omega) ?_)))
              rw [Int.toNat_natCast, ht, W2.out, HG.out]
              refine (ev_readNumber hT).bind (ev_pos (by omega) (ev_pos (by omega) ?_))
              rw [hn]
              exact (ev_right _ _ _).bind (ev_pos hR (ev_now rfl))
            · refine ⟨_, hj2 ([], 0, 0, 40) ?_, isRead_wrong hT h9 (by omega) (fun h => hR h.2)⟩
              rw [hflag]
              refine Ev.step (fun _ => by rw [key_Read.j3]) (ev_neg (by decide) (ev_pos (by omega) (ev_pos (by omega) ?_)))
              rw [Int.toNat_natCast, ht, W2.out, HG.out]
              refine (ev_readNumber hT).bind (ev_pos (by omega) (ev_pos (by omega) ?_))
              rw [hn]
              exact (ev_right _ _ _).bind (ev_neg hR (ev_now rfl))
          · have hflag : ((b.length : Int) != wrap64 (((i + 1 : Nat) : Int) + 9)) = true := by
              rw [w64 (by omega) (by omega)]
              simp; omega
            refine ⟨_, hj2 ([], 0, 0, 40) ?_, isRead_length h9 (by omega)⟩
            rw [hflag]
            exact j3_true b _ acc
        · obtain rfl : c = 1 := by omega
          have hj : ∀ k, key_Read.j1 (k + 1) b (i : Int) true false acc 0 0 = (code_ReadText.f k t).bind fun bt => (if bt.2.2 = 0 then (if acc.length < 8796093022208 then (key_Read.l0 k b (wrap64 ((i : Int) + (wrap64 (bt.2.1 + 1)))) true (acc ++ [bt.1]) 0 0) else none) else (key_Read.j2 k b (i : Int) false acc 0 0)) := by
            intro k
            rw [key_Read.j1, if_neg (by decide), if_pos (by omega), if_pos (by omega), hr, if_neg (by omega), W1.out, if_pos (by omega), if_pos (by omega), Int.toNat_natCast, ht]
          by_cases hx : (rtx t [] 0).2.2 = 0
          · obtain ⟨s, j, e1, e2, e3, e4⟩ := text_back hT hx
            have W3 : Aside0 (wrap64 ((i : Int) + wrap64 ((j : Int) + 1)) = ((i + 1 + j : Nat) : Int)) := ⟨by rw [w64 (x := (j : Int) + 1) (by omega) (by omega), w64 (by omega) (by omega)]; omega⟩
            obtain ⟨r, hr1, hr2⟩ := ih (acc ++ [s]) (i + 1 + j) (by omega) (by omega) (by simp; omega)
            refine ⟨r, hfirst r (Ev.step hj ?_), ?_⟩
            · refine (ev_readText (by omega)).bind ?_
              rw [e1]
              refine ev_pos rfl (ev_pos (by omega) ?_)
              rw [W3.out]
              exact hr1
            · have hdd : b.drop (i + 1 + j) = t.drop j := by rw [← ht, List.drop_drop]
              rw [hdd] at hr2
              have := isRead_cons hr2
              rw [← e4] at this
              exact this
          · refine ⟨([], 0, 0, 40), hfirst _ (Ev.step hj ?_), isRead_text hx⟩
            exact (ev_readText (by omega)).bind (ev_neg hx (j2_false b _ acc))
theorem ev_read {b : List Int} (hb : Byt b) (hlen : b.length ≤ 1000000) : ∃ r, Ev (fun k => key_Read.f k b) r ∧ IsRead [] b r := by
  have := read_l0 b hb hlen b.length [] 0 (by omega) (by omega) (by simp)
  simpa [key_Read.f] using this

theorem byt_eq {l m : List Int} (hl : Byt l) (hm : Byt m) : (strOfNums l).toList = (strOfNums m).toList ↔ l = m := by
  rw [toList_inj, strOfNums_inj hl hm]
end Go.Proofs.Ytoikaegohkolkaa.KFns
