/-
  What the orders of the package key, its parts, and the reference's tell: as plain words; and that the law's trial inputs come out as they should.
-/
import Derived.Test.YticaoeliokkifaaKRead
namespace Go.Proofs.Yticaoeliokkifaa.KFns
set_option linter.unusedSimpArgs false
set_option linter.unusedVariables false
open Go.RowKit Go.Proofs.Yticaoeliokkifaa.Lib Go.Proofs.Yticaoeliokkifaa.Plain Go.Proofs.Yticaoeliokkifaa.Fns Go.Proofs.YticaoeliokkifaaW.PrintWords Go.Proofs.YticaoeliokkifaaW.PrintLast Go.Proofs.YticaoeliokkifaaW.PrintMore

/-! ### the orders -/
/-- The order of two rows of texts: -1, 0, 1. -/
def ordL : List ByteArray → List ByteArray → Int
  | [], [] => 0
  | [], _ :: _ => -1
  | _ :: _, [] => 1
  | s :: l, t :: m => if lts (bs s) (bs t) = true then -1 else if lts (bs t) (bs s) = true then 1 else ordL l m
theorem rdOf_at {l : List ByteArray} {i : Nat} {s : ByteArray} {t : List ByteArray} (h : l.drop i = s :: t) : rdOf ByteArray.empty l (i : Int) = s := (rdOf_drop h).1
theorem order_l0 (l m : List ByteArray) (hl : l.length ≤ 9000000000000000000) (hm : m.length ≤ 9000000000000000000) : ∀ (x y : List ByteArray) (i : Nat), l.drop i = x → m.drop i = y → i ≤ l.length → i ≤ m.length → Ev (fun k => rickyardref06_Order.l0 k l m (i : Int)) (ordL x y) := by
  intro x
  induction x with
  | nil =>
    intro y i hx hy hi hi2
    have e1 := sdrop_nil hx hi
    refine Ev.step (fun _ => by rw [rickyardref06_Order.l0]) (ev_neg (by omega) (Ev.step (fun _ => by rw [rickyardref06_Order.j1]) (ev_neg (by decide) ?_)))
    cases y with
    | nil =>
      have e2 := sdrop_nil hy hi2
      exact ev_neg (by omega) (ev_neg (by omega) (ev_now rfl))
    | cons t y =>
      obtain ⟨_, hlt, _⟩ := rdOf_drop hy
      exact ev_pos (by omega) (ev_now rfl)
  | cons s x ih =>
    intro y i hx hy hi hi2
    obtain ⟨hr, hlt, ht⟩ := rdOf_drop hx
    refine Ev.step (fun _ => by rw [rickyardref06_Order.l0]) (ev_pos (by omega) ?_)
    cases y with
    | nil =>
      have e2 := sdrop_nil hy hi2
      rw [decide_eq_false (by omega)]
      refine Ev.step (fun _ => by rw [rickyardref06_Order.j1]) ?_
      exact ev_neg (by decide) (ev_neg (by omega) (ev_pos (by omega) (ev_now rfl)))
    | cons t y =>
      obtain ⟨hr2, hlt2, ht2⟩ := rdOf_drop hy
      have W1 : Aside0 (wrap64 ((i : Int) + 1) = ((i + 1 : Nat) : Int)) := ⟨by rw [w64 (by omega) (by omega)]; omega⟩
      rw [decide_eq_true (by omega)]
      refine Ev.step (fun _ => by rw [rickyardref06_Order.j1]) (ev_pos rfl (ev_pos (by omega) (ev_pos (by omega) (ev_pos (by omega) ?_))))
      rw [hr, hr2, less_bs, less_bs, W1.out]
      unfold ordL
      by_cases h1 : lts (bs s) (bs t) = true
      · rw [if_pos h1]
        exact ev_pos h1 (ev_now rfl)
      · rw [if_neg h1]
        refine ev_neg h1 ?_
        by_cases h2 : lts (bs t) (bs s) = true
        · rw [if_pos h2]
          exact ev_pos h2 (ev_now rfl)
        · rw [if_neg h2]
          exact ev_neg h2 (ih y (i + 1) ht ht2 (by omega) (by omega))
theorem ev_order {l m : List ByteArray} (hl : l.length ≤ 9000000000000000000) (hm : m.length ≤ 9000000000000000000) : Ev (fun k => rickyardref06_Order.f k l m) (ordL l m) := order_l0 l m hl hm l m 0 rfl rfl (by omega) (by omega)
theorem compare_at (s t : ByteArray) : cmp_Compare_string.f s t = some (if lts (bs s) (bs t) = true then -1 else if lts (bs t) (bs s) = true then 1 else 0) := by
  unfold cmp_Compare_string.f cmp_isNaN_string.f
  simp only [bne_self_eq_false, Option.bind_some, less_bs]
  by_cases h1 : lts (bs s) (bs t) = true
  · simp [h1]
  · by_cases h2 : lts (bs t) (bs s) = true
    · simp [h1, h2]
    · simp [h1, h2]
theorem compare_l0 (l m : List ByteArray) (hl : l.length ≤ 9000000000000000000) (hm : m.length ≤ 9000000000000000000) : ∀ (x y : List ByteArray) (i : Nat), l.drop i = x → m.drop i = y → i ≤ l.length → i ≤ m.length → Ev (fun k => slices_Compare_string_string.l0 k l m l (l.length : Int) (i : Int)) (ordL x y) := by
  intro x
  induction x with
  | nil =>
    intro y i hx hy hi hi2
    have e1 := sdrop_nil hx hi
    refine Ev.step (fun _ => by rw [slices_Compare_string_string.l0]) (ev_neg (by omega) ?_)
    cases y with
    | nil =>
      have e2 := sdrop_nil hy hi2
      exact ev_neg (by omega) (ev_now rfl)
    | cons t y =>
      obtain ⟨_, hlt, _⟩ := rdOf_drop hy
      exact ev_pos (by omega) (ev_now rfl)
  | cons s x ih =>
    intro y i hx hy hi hi2
    obtain ⟨hr, hlt, ht⟩ := rdOf_drop hx
    refine Ev.step (fun _ => by rw [slices_Compare_string_string.l0]) (ev_pos (by omega) (ev_pos (by omega) (ev_pos (by omega) ?_)))
    cases y with
    | nil =>
      have e2 := sdrop_nil hy hi2
      exact ev_pos (by omega) (ev_now rfl)
    | cons t y =>
      obtain ⟨hr2, hlt2, ht2⟩ := rdOf_drop hy
      have W1 : Aside0 (wrap64 ((i : Int) + 1) = ((i + 1 : Nat) : Int)) := ⟨by rw [w64 (by omega) (by omega)]; omega⟩
      refine ev_neg (by omega) (ev_pos (by omega) ?_)
      rw [hr, hr2, compare_at, W1.out]
      simp only [Option.bind_some]
      unfold ordL
      by_cases h1 : lts (bs s) (bs t) = true
      · simp only [if_pos h1]
        exact ev_neg (by decide) (ev_now rfl)
      · simp only [if_neg h1]
        by_cases h2 : lts (bs t) (bs s) = true
        · simp only [if_pos h2]
          exact ev_neg (by decide) (ev_now rfl)
        · simp only [if_neg h2]
          exact ev_pos trivial (ih y (i + 1) ht ht2 (by omega) (by omega))
theorem ev_compare {l m : List ByteArray} (hl : l.length ≤ 9000000000000000000) (hm : m.length ≤ 9000000000000000000) : Ev (fun k => slices_Compare_string_string.f k l m) (ordL l m) := compare_l0 l m hl hm l m 0 rfl rfl (by omega) (by omega)
/-- A key ahead of another. -/
def lessB (l : List ByteArray) (z g : Int) (m : List ByteArray) (z' g' : Int) : Bool := if ordL l m = 0 then (if z = z' then decide (g < g') else decide (z < z')) else decide (ordL l m < 0)
theorem ev_less {l m : List ByteArray} (hl : l.length ≤ 9000000000000000000) (hm : m.length ≤ 9000000000000000000) (z g z' g' : Int) : Ev (fun k => key_Less.f k l z g m z' g') (lessB l z g m z' g') := by
  unfold key_Less.f
  refine (ev_compare hl hm).bind ?_
  by_cases h : ordL l m = 0
  · refine ev_pos h ?_
    unfold lessB
    rw [if_pos h]
    by_cases h2 : z = z'
    · refine ev_pos h2 (ev_now ?_); rw [if_pos h2]
    · refine ev_neg h2 (ev_now ?_); rw [if_neg h2]
  · refine ev_neg h (ev_now ?_)
    unfold lessB
    rw [if_neg h]
theorem ev_refLess {l m : List ByteArray} (hl : l.length ≤ 9000000000000000000) (hm : m.length ≤ 9000000000000000000) (z g z' g' : Int) : Ev (fun k => rickyardref06_Less.f k l z g m z' g') (lessB l z g m z' g') := by
  unfold rickyardref06_Less.f
  refine (ev_order hl hm).bind ?_
  by_cases h : ordL l m = 0
  · refine ev_pos h ?_
    unfold lessB
    rw [if_pos h]
    by_cases h2 : z = z'
    · refine ev_neg (by omega) (ev_pos h2 (ev_now ?_)); rw [if_pos h2]
    · by_cases h3 : z < z'
      · refine ev_pos h3 (ev_now ?_); rw [if_neg h2, decide_eq_true h3]
      · refine ev_neg h3 (ev_neg h2 (ev_now ?_)); rw [if_neg h2, decide_eq_false h3]
  · refine ev_neg h (ev_now ?_)
    unfold lessB
    rw [if_neg h]
def sameB (l : List ByteArray) (z g : Int) (m : List ByteArray) (z' g' : Int) : Bool := decide (ordL l m = 0) && (decide (z = z') && decide (g = g'))
theorem ev_same {l m : List ByteArray} (hl : l.length ≤ 9000000000000000000) (hm : m.length ≤ 9000000000000000000) (z g z' g' : Int) : Ev (fun k => rickyardref06_Same.f k l z g m z' g') (sameB l z g m z' g') := by
  unfold rickyardref06_Same.f sameB
  refine (ev_order hl hm).bind ?_
  by_cases h : ordL l m = 0
  · rw [decide_eq_true h, Bool.true_and]
    refine ev_pos h ?_
    by_cases h2 : z = z'
    · rw [decide_eq_true h2, Bool.true_and]; exact ev_pos h2 (ev_now rfl)
    · rw [decide_eq_false h2, Bool.false_and]; exact ev_neg h2 (ev_now rfl)
  · rw [decide_eq_false h, Bool.false_and]
    exact ev_neg h (ev_now rfl)
theorem ordL_refl : ∀ l, ordL l l = 0
  | [] => rfl
  | s :: l => by simp [ordL, lts_irrefl, ordL_refl l]
theorem ordL_zero : ∀ {l m : List ByteArray}, ordL l m = 0 → l = m
  | [], [], _ => rfl
  | [], _ :: _, h => by simp [ordL] at h
  | _ :: _, [], h => by simp [ordL] at h
  | s :: l, t :: m, h => by
    unfold ordL at h
    by_cases h1 : lts (bs s) (bs t) = true
    · rw [if_pos h1] at h; omega
    · rw [if_neg h1] at h
      by_cases h2 : lts (bs t) (bs s) = true
      · rw [if_pos h2] at h; omega
      · rw [if_neg h2] at h
        rw [bs_inj (lts_total _ _ (Bool.eq_false_iff.2 h1) (Bool.eq_false_iff.2 h2)), ordL_zero h]
theorem ordL_iff {l m : List ByteArray} : ordL l m = 0 ↔ l = m := ⟨ordL_zero, fun h => by rw [h, ordL_refl]⟩
theorem ordL_cases : ∀ (l m : List ByteArray), ordL l m = -1 ∨ ordL l m = 0 ∨ ordL l m = 1
  | [], [] => .inr (.inl rfl)
  | [], _ :: _ => .inl rfl
  | _ :: _, [] => .inr (.inr rfl)
  | s :: l, t :: m => by
    unfold ordL
    split
    · exact .inl rfl
    · split
      · exact .inr (.inr rfl)
      · exact ordL_cases l m
theorem ordL_flip : ∀ (l m : List ByteArray), ordL m l = - ordL l m
  | [], [] => rfl
  | [], _ :: _ => rfl
  | _ :: _, [] => rfl
  | s :: l, t :: m => by
    unfold ordL
    by_cases h1 : lts (bs s) (bs t) = true
    · rw [if_pos h1, if_neg (by rw [lts_asymm _ _ h1]; decide), if_pos h1]; rfl
    · rw [if_neg h1]
      by_cases h2 : lts (bs t) (bs s) = true
      · rw [if_pos h2, if_pos h2, if_neg h1]
      · rw [if_neg h2, if_neg h2, if_neg h1, ordL_flip l m]
theorem sameB_iff {l m : List ByteArray} {z g z' g' : Int} : sameB l z g m z' g' = true ↔ l = m ∧ z = z' ∧ g = g' := by
  unfold sameB
  simp only [Bool.and_eq_true, decide_eq_true_eq, ordL_iff]

/-! ### parts -/
theorem and_one (n : Int) : Go.bits .and .i64 n 1 = n % 2 := by
  have h127 : (BitVec.ofInt 64 1).toNat = 2 ^ 1 - 1 := by decide
  have key : (BitVec.ofInt 64 n &&& BitVec.ofInt 64 1).toNat = (n % ((2 ^ 64 : Nat) : Int)).toNat % 2 ^ 1 := by
    rw [BitVec.toNat_and, BitVec.toNat_ofInt, h127, Nat.and_two_pow_sub_one_eq_mod]
  show IntKind.i64.wrap ((BitVec.ofInt 64 n &&& BitVec.ofInt 64 1).toNat : Nat) = n % 2
  rw [key, IntKind.wrap_i64]
  omega
theorem and_forty (n : Int) : Go.bits .and .i64 n 1099511627775 = n % 1099511627776 := by
  have h127 : (BitVec.ofInt 64 1099511627775).toNat = 2 ^ 40 - 1 := by decide
  have key : (BitVec.ofInt 64 n &&& BitVec.ofInt 64 1099511627775).toNat = (n % ((2 ^ 64 : Nat) : Int)).toNat % 2 ^ 40 := by
    rw [BitVec.toNat_and, BitVec.toNat_ofInt, h127, Nat.and_two_pow_sub_one_eq_mod]
  show IntKind.i64.wrap ((BitVec.ofInt 64 n &&& BitVec.ofInt 64 1099511627775).toNat : Nat) = n % 1099511627776
  rw [key, IntKind.wrap_i64]
  omega
theorem bit_at (u i : Nat) (hi : i ≤ 64) : Go.bits .and .i64 (shr .i64 (u : Int) (i : Int)) 1 = ((u / 2 ^ i % 2 : Nat) : Int) := by
  rw [and_one]
  unfold shr
  rw [Int.toNat_natCast, show IntKind.bits .i64 = 64 from rfl, Nat.min_eq_left hi]
  push_cast
  rfl
/-- The texts that a mask names. -/
def sel : List ByteArray → Nat → List ByteArray
  | [], _ => []
  | s :: t, u => if u % 2 = 1 then s :: sel t (u / 2) else sel t (u / 2)
def partL (l : List ByteArray) (a : Int) : List ByteArray × Int := if a < 0 then ([], 1) else (sel l a.toNat, 0)
theorem part_l0 (l : List ByteArray) (hl : l.length ≤ 1000000000000) (u : Nat) (hu : u < 9223372036854775808) : ∀ (x : List ByteArray) (i : Nat) (acc : List ByteArray), l.drop i = x → i ≤ l.length → acc.length ≤ i → Ev (fun k => key_Part.l0 k l (u : Int) acc (l.length : Int) (i : Int)) (acc ++ sel x (u / 2 ^ i), 0) := by
  intro x
  induction x with
  | nil =>
    intro i acc hx hi ha
    have e1 := sdrop_nil hx hi
    exact Ev.step (fun _ => by rw [key_Part.l0]) (ev_neg (by omega) (ev_now (by simp [sel])))
  | cons s x ih =>
    intro i acc hx hi ha
    obtain ⟨hr, hlt, ht⟩ := rdOf_drop hx
    have W1 : Aside0 (wrap64 ((i : Int) + 1) = ((i + 1 : Nat) : Int)) := ⟨by rw [w64 (by omega) (by omega)]; omega⟩
    have hd : u / 2 ^ i / 2 = u / 2 ^ (i + 1) := by rw [Nat.div_div_eq_div_mul, Nat.pow_succ]
    refine Ev.step (fun _ => by rw [key_Part.l0]) (ev_pos (by omega) ?_)
    rw [W1.out, hr]
    by_cases h63 : i < 63
    · refine ev_pos (by omega) (ev_pos (by omega) ?_)
      rw [bit_at u i (by omega)]
      by_cases hb : u / 2 ^ i % 2 = 1
      · refine ev_pos (by omega) (ev_pos (by omega) (ev_pos (by omega) ?_))
        have := ih (i + 1) (acc ++ [s]) ht (by omega) (by simp; omega)
        unfold sel
        rw [if_pos hb, hd]
        simpa using this
      · refine ev_neg (by omega) ?_
        have := ih (i + 1) acc ht (by omega) (by omega)
        unfold sel
        rw [if_neg hb, hd]
        exact this
    · refine ev_neg (by omega) ?_
      have h0 : u / 2 ^ i = 0 := Nat.div_eq_of_lt (Nat.lt_of_lt_of_le (show u < 2 ^ 63 from hu) (Nat.pow_le_pow_right (show 2 > 0 by decide) (by omega : 63 ≤ i)))
      have := ih (i + 1) acc ht (by omega) (by omega)
      unfold sel
      rw [h0, if_neg (by decide)]
      rw [← hd, h0] at this
      exact this
theorem ev_part {l : List ByteArray} (hl : l.length ≤ 1000000000000) {a : Int} (ha : a ≤ 9223372036854775807) : Ev (fun k => key_Part.f k l a) (partL l a) := by
  unfold key_Part.f partL
  by_cases h : a < 0
  · rw [if_pos h]; exact ev_pos h (ev_now rfl)
  · rw [if_neg h]
    refine ev_neg h ?_
    obtain ⟨u, rfl⟩ := Int.eq_ofNat_of_zero_le (show 0 ≤ a by omega)
    have := part_l0 l hl u (by omega) l 0 [] rfl (by omega) (by simp)
    simpa using this
theorem refPart_l0 (l : List ByteArray) (hl : l.length ≤ 1000000000000) : ∀ (x : List ByteArray) (i u : Nat) (acc : List ByteArray), u < 9223372036854775808 → l.drop i = x → i ≤ l.length → acc.length ≤ i → Ev (fun k => rickyardref06_Part.l0 k l (u : Int) acc (i : Int)) (acc ++ sel x u, 0) := by
  intro x
  induction x with
  | nil =>
    intro i u acc hu hx hi ha
    have e1 := sdrop_nil hx hi
    exact Ev.step (fun _ => by rw [rickyardref06_Part.l0]) (ev_neg (by omega) (ev_now (by simp [sel])))
  | cons s x ih =>
    intro i u acc hu hx hi ha
    obtain ⟨hr, hlt, ht⟩ := rdOf_drop hx
    have W1 : Aside0 (wrap64 ((i : Int) + 1) = ((i + 1 : Nat) : Int)) := ⟨by rw [w64 (by omega) (by omega)]; omega⟩
    have W2 : Aside0 (wrap64 (Int.tdiv (u : Int) 2) = ((u / 2 : Nat) : Int)) := ⟨by rw [Int.tdiv_eq_ediv_of_nonneg (by omega), w64 (by omega) (by omega)]; omega⟩
    have W3 : Aside0 (Int.tmod (u : Int) 2 = ((u % 2 : Nat) : Int)) := ⟨by rw [Int.tmod_eq_emod_of_nonneg (by omega)]; omega⟩
    refine Ev.step (fun _ => by rw [rickyardref06_Part.l0]) (ev_pos (by omega) ?_)
    rw [W1.out, W2.out, W3.out, hr]
    by_cases hb : u % 2 = 1
    · refine ev_pos (by omega) (ev_pos (by omega) (ev_pos (by omega) ?_))
      have := ih (i + 1) (u / 2) (acc ++ [s]) (by omega) ht (by omega) (by simp; omega)
      unfold sel
      rw [if_pos hb]
      simpa using this
    · refine ev_neg (by omega) ?_
      have := ih (i + 1) (u / 2) acc (by omega) ht (by omega) (by omega)
      unfold sel
      rw [if_neg hb]
      exact this
theorem ev_refPart {l : List ByteArray} (hl : l.length ≤ 1000000000000) {a : Int} (ha : a ≤ 9223372036854775807) : Ev (fun k => rickyardref06_Part.f k l a) (partL l a) := by
  unfold rickyardref06_Part.f partL
  by_cases h : a < 0
  · rw [if_pos h]; exact ev_pos h (ev_now rfl)
  · rw [if_neg h]
    refine ev_neg h ?_
    obtain ⟨u, rfl⟩ := Int.eq_ofNat_of_zero_le (show 0 ≤ a by omega)
    have := refPart_l0 l hl l 0 u [] (by omega) rfl (by omega) (by simp)
    simpa using this
theorem sel_length : ∀ (l : List ByteArray) (u : Nat), (sel l u).length ≤ l.length
  | [], _ => Nat.le_refl _
  | s :: t, u => by
    have := sel_length t (u / 2)
    unfold sel
    split <;> simp <;> omega
theorem partL_length (l : List ByteArray) (a : Int) : (partL l a).1.length ≤ l.length := by
  unfold partL
  split
  · simp
  · exact sel_length _ _

/-! ### alive -/
theorem ev_alive : Ev (fun k => rickyardlaw06_alive.f k) true := by
  obtain ⟨r, hr, hi⟩ := ev_read (b := []) Byt.nil (by simp)
  have hr0 : r = ([], 0, 0, 40) := isRead_uniq hi (isRead_empty [])
  subst hr0
  unfold rickyardlaw06_alive.f
  refine (ev_write _ _ _).bind (hr.bind ((ev_part (by decide) (by decide)).bind ?_))
  have hp : partL [(⟨#[97]⟩ : ByteArray), (⟨#[98]⟩ : ByteArray), (⟨#[99]⟩ : ByteArray)] 5 = ([(⟨#[97]⟩ : ByteArray), (⟨#[99]⟩ : ByteArray)], 0) := by rfl
  have hw : wr [(⟨#[97]⟩ : ByteArray)] 0 1 = ([1, 97, 0, 1, 0, 128, 0, 0, 0, 0, 0, 0, 0, 1], 0) := by decide +kernel
  rw [hp, hw]
  refine ev_pos rfl (ev_pos ?_ (ev_pos rfl (ev_pos rfl (ev_pos (by decide) (ev_pos (by decide) (ev_now ?_))))))
  · rw [toList_data, strOfNums_data]; decide
  · show (_ == _) = true
    rw [show rdOf ByteArray.empty [(⟨#[97]⟩ : ByteArray), (⟨#[99]⟩ : ByteArray)] 1 = (⟨#[99]⟩ : ByteArray) from rfl, toList_data]
    decide
theorem ev_aliveSome : Ev (fun k => (rickyardlaw06_alive.f k).bind fun t => some t) true := ev_alive.bind (ev_now rfl)
end Go.Proofs.Yticaoeliokkifaa.KFns
