/-
  Plain laws on numbers and texts as bytes: no program in sight.
-/
import Derived.Test.YtnmiipcoojijiaaDoorWWords
import Derived.Test.YtnmiipcoojijiaaDoorWMore
import Derived.Laws.BitsLemmas
import Derived.Laws.Bits64
import Derived.IntWalk
import Derived.Lib.Bytes
namespace Go.Proofs.YtnmiipcoojijiaaDoor.Plain
set_option linter.unusedSimpArgs false
set_option linter.unusedVariables false
open Go.RowKit Go.Proofs.YtnmiipcoojijiaaDoorW.PrintWords Go.Proofs.YtnmiipcoojijiaaDoorW.PrintMore

/-! ### bytes -/
/-- Numbers that are bytes. -/
def Byt (l : List Int) : Prop := ∀ x ∈ l, 0 ≤ x ∧ x < 256

theorem Byt.nil : Byt [] := fun _ h => by cases h
theorem Byt.cons {c : Int} {l : List Int} (h : 0 ≤ c ∧ c < 256) (hl : Byt l) : Byt (c :: l) := fun x hx => by
  rcases List.mem_cons.1 hx with rfl | hx
  · exact h
  · exact hl x hx
theorem Byt.head {c : Int} {l : List Int} (h : Byt (c :: l)) : 0 ≤ c ∧ c < 256 := h c (List.mem_cons_self ..)
theorem Byt.tail {c : Int} {l : List Int} (h : Byt (c :: l)) : Byt l := fun x hx => h x (List.mem_cons_of_mem _ hx)
theorem Byt.append {l m : List Int} (h : Byt l) (hm : Byt m) : Byt (l ++ m) := fun x hx => by
  rcases List.mem_append.1 hx with hx | hx
  · exact h x hx
  · exact hm x hx
theorem Byt.drop {l : List Int} (h : Byt l) (n : Nat) : Byt (l.drop n) := fun x hx => h x (List.mem_of_mem_drop hx)
theorem Byt.take {l : List Int} (h : Byt l) (n : Nat) : Byt (l.take n) := fun x hx => h x (List.mem_of_mem_take hx)
theorem Byt.of_wf {l : List Int} (h : ∀ x ∈ l, (Lit.int .u8 x).wf = true) : Byt l := fun x hx => by
  have := h x hx
  simp only [Lit.wf, IntKind.min, IntKind.max, IntKind.signed, IntKind.bits, Bool.and_eq_true, decide_eq_true_eq] at this
  simp at this
  omega

theorem u64_of_wf {a : Int} (h : (Lit.int .u64 a).wf = true) : 0 ≤ a ∧ a < 18446744073709551616 := by
  simp only [Lit.wf, IntKind.min, IntKind.max, IntKind.signed, IntKind.bits, Bool.and_eq_true, decide_eq_true_eq] at h
  simp at h
  omega
theorem i64_of_wf {a : Int} (h : (Lit.int .i64 a).wf = true) : -9223372036854775808 ≤ a ∧ a < 9223372036854775808 := by
  simp only [Lit.wf, IntKind.min, IntKind.max, IntKind.signed, IntKind.bits, Bool.and_eq_true, decide_eq_true_eq] at h
  simp at h
  omega

theorem w64 {x : Int} (h0 : -9223372036854775808 ≤ x) (h1 : x < 9223372036854775808) : wrap64 x = x := by unfold wrap64; omega

/-- The numbers of a text's bytes. -/
def bs (s : ByteArray) : List Int := s.data.toList.map fun c => (c.toNat : Int)
theorem bs_length (s : ByteArray) : (bs s).length = s.size := by unfold bs; rw [List.length_map, Array.length_toList]; rfl
theorem bs_byt (s : ByteArray) : Byt (bs s) := fun x hx => by
  obtain ⟨c, _, rfl⟩ := List.mem_map.1 hx
  have := c.toNat_lt
  omega
theorem bt_rd (s : ByteArray) (i : Int) : bt s i = rd (bs s) i := by
  unfold bt rd bs
  split
  · rename_i h
    have h' : i.toNat < s.data.toList.length := by rw [Array.length_toList]; exact h
    rw [List.getD_eq_getElem?_getD, List.getElem?_map, List.getElem?_eq_getElem h']
    rfl
  · rename_i h
    have h' : ¬ i.toNat < s.data.toList.length := by rw [Array.length_toList]; exact h
    rw [List.getD_eq_getElem?_getD, List.getElem?_eq_none (by rw [List.length_map]; omega)]
    rfl
theorem strOfNums_bs (s : ByteArray) : strOfNums (bs s) = s := by
  have h : strOfNums (bs s) = ⟨s.data⟩ := by
    unfold strOfNums bs
    congr 1
    apply Array.toList_inj.1
    rw [List.map_map]
    have e : ((fun n : Int => UInt8.ofNat n.toNat) ∘ fun c : UInt8 => (c.toNat : Int)) = id := by
      funext c
      simp
    rw [e, List.map_id]
  exact h
theorem bs_strOfNums {l : List Int} (h : Byt l) : bs (strOfNums l) = l := by
  unfold bs
  rw [strOfNums_data, List.map_map]
  conv => rhs; rw [← List.map_id l]
  apply List.map_congr_left
  intro x hx
  have := h x hx
  simp only [Function.comp, id, UInt8.toNat_ofNat']
  omega
theorem toList_data (s : ByteArray) : s.toList = s.data.toList := Lib.toList_data s
theorem bs_inj {s t : ByteArray} (h : bs s = bs t) : s = t := by rw [← strOfNums_bs s, ← strOfNums_bs t, h]
theorem toList_inj {s t : ByteArray} : s.toList = t.toList ↔ s = t := by
  rw [toList_data, toList_data]
  constructor
  · intro h
    cases s; cases t
    simp at h
    simpa using h
  · rintro rfl; rfl
theorem strOfNums_inj {l m : List Int} (hl : Byt l) (hm : Byt m) : strOfNums l = strOfNums m ↔ l = m := by
  constructor
  · intro h
    rw [← bs_strOfNums hl, ← bs_strOfNums hm, h]
  · rintro rfl; rfl

/-! ### the order of bytes -/
/-- Ahead of: the first one that is unlike counts; a front of another one stands ahead of it. -/
def lts : List Int → List Int → Bool
  | _, [] => false
  | [], _ :: _ => true
  | a :: x, b :: y => decide (a < b) || (decide (a = b) && lts x y)
theorem bytesLess_lts : ∀ {l m : List Int}, Byt l → Byt m → Op.bytesLess (l.map fun n => UInt8.ofNat n.toNat) (m.map fun n => UInt8.ofNat n.toNat) = lts l m
  | [], [], _, _ => rfl
  | [], _ :: _, _, _ => rfl
  | _ :: _, [], _, _ => rfl
  | a :: x, b :: y, ha, hb => by
    have h1 := ha.head
    have h2 := hb.head
    simp only [List.map_cons, Op.bytesLess, lts, bytesLess_lts ha.tail hb.tail]
    have e1 : (UInt8.ofNat a.toNat < UInt8.ofNat b.toNat) ↔ a < b := by
      rw [UInt8.lt_iff_toNat_lt, UInt8.toNat_ofNat', UInt8.toNat_ofNat']; omega
    have e2 : (UInt8.ofNat a.toNat = UInt8.ofNat b.toNat) ↔ a = b := by
      rw [← UInt8.toNat_inj, UInt8.toNat_ofNat', UInt8.toNat_ofNat']; omega
    have e3 : (UInt8.ofNat a.toNat == UInt8.ofNat b.toNat) = decide (a = b) := by
      by_cases h : a = b
      · simp [h]
      · rw [beq_eq_false_iff_ne.2 (fun h' => h (e2.1 h'))]; simp [h]
    rw [e3]
    simp only [e1]
theorem less_strOfNums {l m : List Int} (hl : Byt l) (hm : Byt m) : Op.bytesLess (strOfNums l).toList (strOfNums m).toList = lts l m := by
  rw [toList_data, toList_data, strOfNums_data, strOfNums_data]
  exact bytesLess_lts hl hm
theorem less_bs (s t : ByteArray) : Op.bytesLess s.toList t.toList = lts (bs s) (bs t) := by
  conv => lhs; rw [← strOfNums_bs s, ← strOfNums_bs t]
  exact less_strOfNums (bs_byt s) (bs_byt t)
theorem lts_irrefl : ∀ l, lts l l = false
  | [] => rfl
  | a :: x => by simp [lts, lts_irrefl x]
theorem lts_append_left : ∀ (c : List Int) (x y : List Int), lts (c ++ x) (c ++ y) = lts x y
  | [], _, _ => rfl
  | a :: c, x, y => by simp [lts, lts_append_left c x y]
theorem lts_total : ∀ (x y : List Int), lts x y = false → lts y x = false → x = y
  | [], [], _, _ => rfl
  | [], _ :: _, h, _ => by simp [lts] at h
  | _ :: _, [], _, h => by simp [lts] at h
  | a :: x, b :: y, h, h' => by
    simp [lts] at h h'
    have e : a = b := by omega
    subst e
    rw [lts_total x y (h.2 rfl) (h'.2 rfl)]
theorem lts_asymm : ∀ (x y : List Int), lts x y = true → lts y x = false
  | [], [], h => by simp [lts] at h
  | [], _ :: _, _ => rfl
  | _ :: _, [], h => by simp [lts] at h
  | a :: x, b :: y, h => by
    simp [lts] at h ⊢
    rcases h with h | ⟨rfl, h⟩
    · exact ⟨by omega, fun e => by omega⟩
    · exact ⟨by omega, fun _ => lts_asymm x y h⟩

/-! ### short numbers -/
def sh (v : Nat) : List Int := if v < 128 then [(v : Int)] else ((v % 128 + 128 : Nat) : Int) :: sh (v / 128)
theorem sh_lt {v : Nat} (h : v < 128) : sh v = [(v : Int)] := by rw [sh, if_pos h]
theorem sh_ge {v : Nat} (h : 128 ≤ v) : sh v = ((v % 128 + 128 : Nat) : Int) :: sh (v / 128) := by rw [sh, if_neg (by omega)]
theorem sh_byt (v : Nat) : Byt (sh v) := by
  induction v using Nat.strongRecOn with
  | _ v ih =>
    by_cases h : v < 128
    · rw [sh_lt h]; exact Byt.cons (by omega) Byt.nil
    · rw [sh_ge (by omega)]; exact Byt.cons (by omega) (ih _ (by omega))
theorem sh_length_le : ∀ (n v : Nat), v < 128 ^ (n + 1) → (sh v).length ≤ n + 1
  | 0, v, h => by rw [sh_lt (by simpa using h)]; simp
  | n + 1, v, h => by
    by_cases hv : v < 128
    · rw [sh_lt hv]; simp
    · rw [sh_ge (by omega)]
      have := sh_length_le n (v / 128) (by rw [Nat.pow_succ] at h; omega)
      simp; omega
theorem sh_length_pos (v : Nat) : 1 ≤ (sh v).length := by
  by_cases h : v < 128
  · rw [sh_lt h]; simp
  · rw [sh_ge (by omega)]; simp
theorem sh_length_mono : ∀ (a b : Nat), a ≤ b → (sh a).length ≤ (sh b).length := by
  intro a
  induction a using Nat.strongRecOn with
  | _ a ih =>
    intro b h
    by_cases ha : a < 128
    · rw [sh_lt ha]; simpa using sh_length_pos b
    · rw [sh_ge (by omega), sh_ge (by omega : 128 ≤ b)]
      have := ih (a / 128) (by omega) (b / 128) (by omega)
      simp; omega

/-- What is read: the rest of the bytes, how many were read, the number so far. -/
def rsh : List Int → Nat → Int → Int × Int × Int
  | [], _, _ => (0, 0, 10)
  | c :: t, i, v =>
    if i = 9 ∧ c > 1 then (0, 0, 11)
    else if c ≥ 128 then rsh t (i + 1) (v + c % 128 * 2 ^ (7 * i))
    else if c = 0 ∧ i ≥ 1 then (0, 0, 3)
    else (v + c % 128 * 2 ^ (7 * i), ((i + 1 : Nat) : Int), 0)

theorem rsh_sh (more : List Int) : ∀ (n i a : Nat) (v : Int), a < 128 ^ (n + 1) → i + n ≤ 9 → (1 ≤ i → 1 ≤ a) → a * 2 ^ (7 * i) < 18446744073709551616 → rsh (sh a ++ more) i v = (v + (a : Int) * 2 ^ (7 * i), ((i + (sh a).length : Nat) : Int), 0) := by
  intro n
  induction n with
  | zero =>
    intro i a v h hi h1 hb
    have ha : a < 128 := by simpa using h
    rw [sh_lt ha]
    have h9 : ¬ (i = 9 ∧ (a : Int) > 1) := by
      rintro ⟨rfl, h2⟩
      have : (2 : Nat) * 2 ^ 63 ≤ a * 2 ^ 63 := Nat.mul_le_mul_right _ (by omega)
      simp at hb
      omega
    simp only [List.cons_append, List.nil_append, rsh]
    rw [if_neg h9, if_neg (by omega), if_neg (by omega), show (a : Int) % 128 = (a : Int) by omega]
    rfl
  | succ n ih =>
    intro i a v h hi h1 hb
    by_cases ha : a < 128
    · rw [sh_lt ha]
      have h9 : ¬ (i = 9 ∧ (a : Int) > 1) := by omega
      simp only [List.cons_append, List.nil_append, rsh]
      rw [if_neg h9, if_neg (by omega), if_neg (by omega), show (a : Int) % 128 = (a : Int) by omega]
      rfl
    · rw [sh_ge (by omega)]
      simp only [List.cons_append, rsh]
      rw [if_neg (by omega), if_pos (by omega)]
      have e1 : (((a % 128 + 128 : Nat) : Int)) % 128 = ((a % 128 : Nat) : Int) := by omega
      have hp : (2 : Nat) ^ (7 * (i + 1)) = 128 * 2 ^ (7 * i) := by rw [show 7 * (i + 1) = 7 + 7 * i from by omega, Nat.pow_add]
      have hp' : (2 : Int) ^ (7 * (i + 1)) = 128 * 2 ^ (7 * i) := by exact_mod_cast hp
      have hd : a / 128 * 128 ≤ a := Nat.div_mul_le_self a 128
      rw [ih (i + 1) (a / 128) _ (by rw [Nat.pow_succ] at h; omega) (by omega) (by omega) (by
        rw [hp]
        calc a / 128 * (128 * 2 ^ (7 * i)) = a / 128 * 128 * 2 ^ (7 * i) := by rw [Nat.mul_assoc]
          _ ≤ a * 2 ^ (7 * i) := Nat.mul_le_mul_right _ hd
          _ < _ := hb)]
      rw [e1, hp']
      congr 1
      · have : (a : Int) = ((a % 128 : Nat) : Int) + 128 * ((a / 128 : Nat) : Int) := by omega
        have e : (a : Int) * 2 ^ (7 * i) = ((a % 128 : Nat) : Int) * 2 ^ (7 * i) + ((a / 128 : Nat) : Int) * (128 * 2 ^ (7 * i)) := by
          conv => lhs; rw [this]
          rw [Int.add_mul, Int.mul_comm 128, Int.mul_assoc]
        rw [e]; omega
      · simp; omega

theorem rsh_zero (a : Nat) (h : a < 18446744073709551616) (more : List Int) : rsh (sh a ++ more) 0 0 = ((a : Int), ((sh a).length : Int), 0) := by
  have := rsh_sh more 9 0 a 0 (by have : (18446744073709551616 : Nat) ≤ 128 ^ 10 := by decide
                                  omega) (by omega) (by omega) (by simpa using h)
  simpa using this

theorem sh_cut : ∀ (n i a cut : Nat) (v : Int), a < 128 ^ (n + 1) → i + n ≤ 9 → cut < (sh a).length → rsh ((sh a).take cut) i v = (0, 0, 10) := by
  intro n
  induction n with
  | zero =>
    intro i a cut v h hi hc
    rw [sh_lt (by simpa using h)] at hc ⊢
    simp at hc
    subst hc
    rfl
  | succ n ih =>
    intro i a cut v h hi hc
    by_cases ha : a < 128
    · rw [sh_lt ha] at hc ⊢
      simp at hc
      subst hc
      rfl
    · rw [sh_ge (by omega)] at hc ⊢
      cases cut with
      | zero => rfl
      | succ c =>
        simp only [List.take_succ_cons, rsh]
        rw [if_neg (by omega), if_pos (by omega)]
        exact ih (i + 1) (a / 128) c _ (by rw [Nat.pow_succ] at h; omega) (by omega) (by simpa using hc)

/-- How many sevens of digits. -/
def sevens (v : Nat) (n : Nat) : Nat := if v = 0 then n else sevens (v / 128) (n + 1)
theorem sevens_sh (v : Nat) : ∀ n, sevens (v / 128) (n + 1) = n + (sh v).length := by
  induction v using Nat.strongRecOn with
  | _ v ih =>
    intro n
    by_cases h : v < 128
    · rw [sh_lt h, sevens, if_pos (by omega)]; simp
    · rw [sh_ge (by omega), sevens, if_neg (by omega), ih (v / 128) (by omega) (n + 1)]; simp; omega

/-- What is read, written again, stands there. -/
theorem fits_more {a x i : Nat} (hi : i ≤ 8) (hx : x < 128) (h : (128 * a) * 2 ^ (7 * i) < 18446744073709551616) : (x + 128 * a) * 2 ^ (7 * i) < 18446744073709551616 := by
  have e : (18446744073709551616 : Nat) = 2 ^ (57 - 7 * i) * 128 * 2 ^ (7 * i) := by
    have : i = 0 ∨ i = 1 ∨ i = 2 ∨ i = 3 ∨ i = 4 ∨ i = 5 ∨ i = 6 ∨ i = 7 ∨ i = 8 := by omega
    rcases this with rfl | rfl | rfl | rfl | rfl | rfl | rfl | rfl | rfl <;> rfl
  rw [e] at h ⊢
  have hp : 0 < 2 ^ (7 * i) := Nat.two_pow_pos _
  have h2 := Nat.lt_of_mul_lt_mul_right h
  exact Nat.mul_lt_mul_of_pos_right (by omega) hp
theorem fits_one {c i : Nat} (hi : i ≤ 9) (hc : c < 128) (h9 : i = 9 → c ≤ 1) : c * 2 ^ (7 * i) < 18446744073709551616 := by
  have hp : 0 < 2 ^ (7 * i) := Nat.two_pow_pos _
  by_cases h : i = 9
  · subst h
    have := h9 rfl
    calc c * 2 ^ (7 * 9) ≤ 1 * 2 ^ (7 * 9) := Nat.mul_le_mul_right _ this
      _ < _ := by decide
  · have e : (18446744073709551616 : Nat) = 2 ^ (57 - 7 * i) * 128 * 2 ^ (7 * i) := by
      have : i = 0 ∨ i = 1 ∨ i = 2 ∨ i = 3 ∨ i = 4 ∨ i = 5 ∨ i = 6 ∨ i = 7 ∨ i = 8 := by omega
      rcases this with rfl | rfl | rfl | rfl | rfl | rfl | rfl | rfl | rfl <;> rfl
    rw [e]
    refine Nat.mul_lt_mul_of_pos_right ?_ hp
    have : 0 < 2 ^ (57 - 7 * i) := Nat.two_pow_pos _
    omega
theorem rsh_back : ∀ (b : List Int) (i : Nat) (v x n : Int), Byt b → i ≤ 9 → rsh b i v = (x, n, 0) →
    ∃ a m : Nat, sh a = b.take m ∧ m ≤ b.length ∧ 1 ≤ m ∧ n = ((i + m : Nat) : Int) ∧ x = v + (a : Int) * 2 ^ (7 * i) ∧ (1 ≤ i → 1 ≤ a) ∧ a * 2 ^ (7 * i) < 18446744073709551616 := by
  intro b
  induction b with
  | nil => intro i v x n _ _ h; simp [rsh] at h
  | cons c t ih =>
    intro i v x n hb hi h
    have hc := hb.head
    simp only [rsh] at h
    by_cases h9 : i = 9 ∧ c > 1
    · rw [if_pos h9] at h; simp at h
    · rw [if_neg h9] at h
      have hpw : i ≤ 8 → (2 : Nat) ^ (7 * i) ≤ 2 ^ 56 := fun h => Nat.pow_le_pow_right (by decide) (by omega)
      by_cases h8 : c ≥ 128
      · rw [if_pos h8] at h
        have hi8 : i ≤ 8 := by omega
        obtain ⟨a, m, h1, h2, h3, h4, h5, h6, h7⟩ := ih (i + 1) _ x n hb.tail (by omega) h
        have ha := h6 (by omega)
        have hp : (2 : Nat) ^ (7 * (i + 1)) = 128 * 2 ^ (7 * i) := by rw [show 7 * (i + 1) = 7 + 7 * i from by omega, Nat.pow_add]
        have hp' : (2 : Int) ^ (7 * (i + 1)) = 128 * 2 ^ (7 * i) := by exact_mod_cast hp
        refine ⟨(c - 128).toNat + 128 * a, m + 1, ?_, by simpa using h2, by omega, by omega, ?_, by omega, ?_⟩
        · rw [sh_ge (by omega), List.take_succ_cons, ← h1]
          congr 1
          · omega
          · congr 1; omega
        · rw [h5, hp']
          have e : c % 128 = ((c - 128).toNat : Int) := by omega
          rw [e]
          have e2 : (((c - 128).toNat + 128 * a : Nat) : Int) = ((c - 128).toNat : Int) + 128 * (a : Int) := by push_cast; rfl
          rw [e2, Int.add_mul, Int.mul_comm 128 (a : Int), Int.mul_assoc, Int.add_assoc]
        · rw [hp] at h7
          have e3 : a * (128 * 2 ^ (7 * i)) = (128 * a) * 2 ^ (7 * i) := by rw [← Nat.mul_assoc, Nat.mul_comm a 128]
          rw [e3] at h7
          exact fits_more hi8 (by omega) h7
      · rw [if_neg h8] at h
        by_cases h0 : c = 0 ∧ i ≥ 1
        · rw [if_pos h0] at h; simp at h
        · rw [if_neg h0] at h
          simp only [Prod.mk.injEq] at h
          obtain ⟨rfl, rfl, _⟩ := h
          refine ⟨c.toNat, 1, ?_, by simp, by omega, rfl, ?_, by omega, ?_⟩
          · rw [sh_lt (by omega)]; simp; omega
          · have : c % 128 = (c.toNat : Int) := by omega
            rw [this]
          · exact fits_one hi (by omega) (fun h => by omega)
theorem rsh_err (b : List Int) : ∀ (i : Nat) (v : Int), (rsh b i v).2.2 = 0 ∨ rsh b i v = (0, 0, (rsh b i v).2.2) := by
  induction b with
  | nil => intro i v; right; rfl
  | cons c t ih =>
    intro i v
    simp only [rsh]
    split
    · right; rfl
    · split
      · exact ih _ _
      · split
        · right; rfl
        · left; rfl

/-! ### numbers in order -/
/-- The last j bytes of u, the greatest first. -/
def numb (u : Nat) : Nat → List Int
  | 0 => []
  | j + 1 => ((u / 2 ^ (8 * j) % 256 : Nat) : Int) :: numb u j
theorem numb_length (u : Nat) : ∀ j, (numb u j).length = j
  | 0 => rfl
  | j + 1 => by simp [numb, numb_length u j]
theorem numb_byt (u : Nat) : ∀ j, Byt (numb u j)
  | 0 => Byt.nil
  | j + 1 => Byt.cons (by omega) (numb_byt u j)
theorem pow8 (j : Nat) : (2 : Nat) ^ (8 * (j + 1)) = 256 * 2 ^ (8 * j) := by rw [show 8 * (j + 1) = 8 + 8 * j from by omega, Nat.pow_add]
theorem mod_split (u j : Nat) : u % 2 ^ (8 * (j + 1)) = u / 2 ^ (8 * j) % 256 * 2 ^ (8 * j) + u % 2 ^ (8 * j) := by
  rw [pow8, Nat.mul_comm 256, Nat.mod_mul, Nat.mul_comm (2 ^ (8 * j)), Nat.add_comm]
theorem numb_lts (a b : Nat) : ∀ j, lts (numb a j) (numb b j) = decide (a % 2 ^ (8 * j) < b % 2 ^ (8 * j))
  | 0 => by simp [numb, lts, Nat.mod_one]
  | j + 1 => by
    rw [numb, numb, lts, numb_lts a b j, mod_split a j, mod_split b j]
    have h1 : a % 2 ^ (8 * j) < 2 ^ (8 * j) := Nat.mod_lt _ (Nat.two_pow_pos _)
    have h2 : b % 2 ^ (8 * j) < 2 ^ (8 * j) := Nat.mod_lt _ (Nat.two_pow_pos _)
    generalize a / 2 ^ (8 * j) % 256 = x
    generalize b / 2 ^ (8 * j) % 256 = y
    generalize a % 2 ^ (8 * j) = p at *
    generalize b % 2 ^ (8 * j) = q at *
    generalize 2 ^ (8 * j) = z at *
    by_cases hxy : x < y
    · have h3 : x * z + z ≤ y * z := by rw [← Nat.succ_mul]; exact Nat.mul_le_mul_right _ hxy
      have h4 : (x : Int) < (y : Int) := by omega
      simp [h4, decide_eq_true (by omega : x * z + p < y * z + q)]
    · by_cases he : x = y
      · subst he
        simp
      · have h3 : y * z + z ≤ x * z := by rw [← Nat.succ_mul]; exact Nat.mul_le_mul_right _ (by omega)
        have h4 : ¬ (x : Int) < (y : Int) := by omega
        have h5 : ¬ (x : Int) = (y : Int) := by omega
        simp [h4, h5, decide_eq_false (by omega : ¬ x * z + p < y * z + q)]
theorem numb_inj (a b : Nat) : ∀ j, numb a j = numb b j → a % 2 ^ (8 * j) = b % 2 ^ (8 * j)
  | 0, _ => by simp [Nat.mod_one]
  | j + 1, h => by
    simp only [numb, List.cons.injEq] at h
    have := numb_inj a b j h.2
    rw [mod_split a j, mod_split b j, this]
    have e : a / 2 ^ (8 * j) % 256 = b / 2 ^ (8 * j) % 256 := by omega
    rw [e]
/-- The number of bytes. -/
def val (l : List Int) : Int := l.foldl (fun a c => a * 256 + c) 0
theorem val_foldl (l : List Int) : ∀ a : Int, l.foldl (fun a c => a * 256 + c) a = a * 256 ^ l.length + val l := by
  unfold val
  induction l with
  | nil => intro a; simp
  | cons c t ih =>
    intro a
    simp only [List.foldl_cons, List.length_cons]
    rw [ih, ih (0 * 256 + c), Int.pow_succ, Int.zero_mul, Int.zero_add]
    generalize (256 : Int) ^ t.length = z
    rw [Int.add_mul, Int.mul_assoc, Int.mul_comm 256 z]
    omega
theorem val_cons (c : Int) (t : List Int) : val (c :: t) = c * 256 ^ t.length + val t := by
  have := val_foldl t (0 * 256 + c)
  unfold val at this ⊢
  simpa using this
theorem val_numb (u : Nat) : ∀ j, val (numb u j) = ((u % 2 ^ (8 * j) : Nat) : Int)
  | 0 => by simp [numb, val, Nat.mod_one]
  | j + 1 => by
    rw [numb, val_cons, val_numb u j, numb_length, mod_split u j]
    have : (256 : Int) ^ j = ((2 ^ (8 * j) : Nat) : Int) := by
      rw [Nat.pow_mul, show (2 : Nat) ^ 8 = 256 from rfl, Int.natCast_pow]; rfl
    rw [this, Int.natCast_add, Int.natCast_mul]
theorem val_bound : ∀ (l : List Int), Byt l → 0 ≤ val l ∧ val l < 256 ^ l.length
  | [], _ => by simp [val]
  | c :: t, h => by
    have h1 := val_bound t h.tail
    have h2 := h.head
    rw [val_cons, List.length_cons, Int.pow_succ]
    have hp : (0 : Int) < 256 ^ t.length := Int.pow_pos (by decide)
    generalize (256 : Int) ^ t.length = z at *
    constructor
    · have := Int.mul_nonneg h2.1 (Int.le_of_lt hp); omega
    · have : c * z ≤ 255 * z := Int.mul_le_mul_of_nonneg_right (by omega) (Int.le_of_lt hp)
      omega

/-! ### texts in order -/
def txt : List Int → List Int
  | [] => [0, 1]
  | c :: t => if c = 0 then 0 :: 255 :: txt t else c :: txt t
theorem txt_byt : ∀ {l : List Int}, Byt l → Byt (txt l)
  | [], _ => Byt.cons (by omega) (Byt.cons (by omega) Byt.nil)
  | c :: t, h => by
    unfold txt
    split
    · exact Byt.cons (by omega) (Byt.cons (by omega) (txt_byt h.tail))
    · exact Byt.cons h.head (txt_byt h.tail)
theorem txt_length_le : ∀ (l : List Int), (txt l).length ≤ 2 * l.length + 2
  | [] => by simp [txt]
  | c :: t => by
    have := txt_length_le t
    unfold txt
    split <;> simp <;> omega
theorem txt_length_ge : ∀ (l : List Int), l.length + 2 ≤ (txt l).length
  | [] => by simp [txt]
  | c :: t => by
    have := txt_length_ge t
    unfold txt
    split <;> simp <;> omega
/-- Two texts' bytes with anything behind them: they stand as the texts do. -/
theorem txt_lts : ∀ (x y : List Int) (p q : List Int), Byt x → Byt y → lts (txt x ++ p) (txt y ++ q) = (lts x y || (decide (x = y) && lts p q))
  | [], [], p, q, _, _ => by simp [txt, lts]
  | [], d :: y, p, q, _, hy => by
    have := hy.head
    unfold txt
    split
    · rename_i h; subst h; simp [lts]
    · have h1 : (0 : Int) < d := by omega
      simp [lts, h1]
  | c :: x, [], p, q, hx, _ => by
    have := hx.head
    unfold txt
    split
    · rename_i h; subst h; simp [lts]
    · have h1 : ¬ c < 0 := by omega
      rename_i h
      simp [lts, h1, h]
  | c :: x, d :: y, p, q, hx, hy => by
    have h1 := hx.head
    have h2 := hy.head
    have ih := txt_lts x y p q hx.tail hy.tail
    unfold txt
    by_cases hc : c = 0 <;> by_cases hd : d = 0
    · subst hc; subst hd
      rw [if_pos rfl, if_pos rfl]; simp [lts, ih]
    · subst hc
      rw [if_pos rfl, if_neg hd]
      have h3 : (0 : Int) < d := by omega
      simp [lts, h3]
    · subst hd
      rw [if_neg hc, if_pos rfl]
      have h3 : ¬ c < 0 := by omega
      simp [lts, h3, hc]
    · rw [if_neg hc, if_neg hd]
      simp only [List.cons_append, lts, ih, List.cons.injEq]
      by_cases hcd : c = d
      · subst hcd; simp
      · simp [hcd]
theorem txt_inj {x y : List Int} {p q : List Int} (hx : Byt x) (hy : Byt y) (h : txt x ++ p = txt y ++ q) : x = y ∧ p = q := by
  have h1 := txt_lts x y p q hx hy
  have h2 := txt_lts y x q p hy hx
  rw [h, lts_irrefl] at h1
  rw [h, lts_irrefl] at h2
  have h3 : lts x y = false := by
    revert h1; cases lts x y <;> simp
  have h4 : lts y x = false := by
    revert h2; cases lts y x <;> simp
  have e := lts_total x y h3 h4
  subst e
  exact ⟨rfl, List.append_cancel_left h⟩

/-- What is read of a text's bytes: the rest, what was read, where. -/
def rtx : List Int → List Int → Int → ByteArray × Int × Int
  | [], _, _ => ((⟨#[]⟩ : ByteArray), 0, 10)
  | c :: t, out, i =>
    if c = 0 then
      match t with
      | [] => ((⟨#[]⟩ : ByteArray), 0, 10)
      | d :: t' => if d = 1 then (strOfNums out, i + 2, 0) else if d = 255 then rtx t' (out ++ [0]) (i + 2) else ((⟨#[]⟩ : ByteArray), 0, 3)
    else rtx t (out ++ [c]) (i + 1)
theorem rtx_cons (c : Int) (t out : List Int) (i : Int) : rtx (c :: t) out i = if c = 0 then
      match t with
      | [] => ((⟨#[]⟩ : ByteArray), 0, 10)
      | d :: t' => if d = 1 then (strOfNums out, i + 2, 0) else if d = 255 then rtx t' (out ++ [0]) (i + 2) else ((⟨#[]⟩ : ByteArray), 0, 3)
    else rtx t (out ++ [c]) (i + 1) := by rw [rtx.eq_def]
theorem rtx_nz {c : Int} (h : c ≠ 0) (t out : List Int) (i : Int) : rtx (c :: t) out i = rtx t (out ++ [c]) (i + 1) := by rw [rtx_cons, if_neg h]
theorem rtx_end (out : List Int) (i : Int) : rtx [0] out i = ((⟨#[]⟩ : ByteArray), 0, 10) := by rw [rtx_cons, if_pos rfl]
theorem rtx_z (d : Int) (t out : List Int) (i : Int) : rtx (0 :: d :: t) out i = if d = 1 then (strOfNums out, i + 2, 0) else if d = 255 then rtx t (out ++ [0]) (i + 2) else ((⟨#[]⟩ : ByteArray), 0, 3) := by rw [rtx_cons, if_pos rfl]
theorem rtx_txt (more : List Int) : ∀ (l out : List Int) (i : Int), rtx (txt l ++ more) out i = (strOfNums (out ++ l), i + (txt l).length, 0)
  | [], out, i => by
    show rtx (0 :: 1 :: more) out i = _
    rw [rtx_z, if_pos rfl, List.append_nil]
    rfl
  | c :: t, out, i => by
    have ih := rtx_txt more t
    unfold txt
    by_cases h : c = 0
    · subst h
      rw [if_pos rfl]
      simp only [List.cons_append]
      rw [rtx_z, if_neg (by decide), if_pos rfl, ih]
      simp
      omega
    · rw [if_neg h]
      simp only [List.cons_append]
      rw [rtx_nz h, ih]
      simp
      omega
theorem rtx_back : ∀ (n : Nat) (b out : List Int) (i : Int) (s : ByteArray) (m : Int), b.length ≤ n → rtx b out i = (s, m, 0) →
    ∃ (l : List Int) (j : Nat), s = strOfNums (out ++ l) ∧ txt l = b.take j ∧ j ≤ b.length ∧ 2 ≤ j ∧ m = i + j ∧ (Byt b → Byt l)
  | _, [], _, _, _, _, _, h => by simp [rtx] at h
  | n + 1, c :: t, out, i, s, m, hn, h => by
    by_cases hc : c = 0
    · subst hc
      cases t with
      | nil => rw [rtx_end] at h; simp at h
      | cons d t' =>
        rw [rtx_z] at h
        by_cases h1 : d = 1
        · rw [if_pos h1] at h
          simp only [Prod.mk.injEq] at h
          obtain ⟨rfl, rfl, _⟩ := h
          exact ⟨[], 2, by simp, by simp [txt, h1], by simp, by omega, rfl, fun _ => Byt.nil⟩
        · rw [if_neg h1] at h
          by_cases h2 : d = 255
          · rw [if_pos h2] at h
            obtain ⟨l, j, e1, e2, e3, e4, e5, e6⟩ := rtx_back n t' (out ++ [0]) (i + 2) s m (by simp at hn; omega) h
            exact ⟨0 :: l, j + 2, by simp [e1], by simp [txt, e2, h2], by simp; omega, by omega, by omega, fun hb => Byt.cons (by omega) (e6 hb.tail.tail)⟩
          · rw [if_neg h2] at h; simp at h
    · rw [rtx_nz hc] at h
      obtain ⟨l, j, e1, e2, e3, e4, e5, e6⟩ := rtx_back n t (out ++ [c]) (i + 1) s m (by simp at hn; omega) h
      exact ⟨c :: l, j + 1, by simp [e1], by simp [txt, hc, e2], by simp; omega, by omega, by omega, fun hb => Byt.cons hb.head (e6 hb.tail)⟩
theorem rtx_err : ∀ (n : Nat) (b out : List Int) (i : Int), b.length ≤ n → (rtx b out i).2.2 = 0 ∨ rtx b out i = ((⟨#[]⟩ : ByteArray), 0, (rtx b out i).2.2)
  | _, [], _, _, _ => by right; rfl
  | n + 1, c :: t, out, i, hn => by
    by_cases hc : c = 0
    · subst hc
      cases t with
      | nil => right; rw [rtx_end]
      | cons d t' =>
        rw [rtx_z]
        split
        · left; rfl
        · split
          · exact rtx_err n t' _ _ (by simp at hn; omega)
          · right; rfl
    · rw [rtx_nz hc]
      exact rtx_err n t _ _ (by simp at hn; omega)
end Go.Proofs.YtnmiipcoojijiaaDoor.Plain
