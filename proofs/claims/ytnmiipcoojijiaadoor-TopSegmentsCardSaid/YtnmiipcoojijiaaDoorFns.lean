/-
  What the functions of the package code, and of its reference, tell: as the plain laws' own words (sh, rsh, numb, val, txt, rtx).
-/
import Derived.Test.YtnmiipcoojijiaaDoorLib2
import Derived.Test.YtnmiipcoojijiaaDoorPlain
import Derived.Laws.BitsAllLaws
import Derived.Laws.Bits64b
namespace Go.Proofs.YtnmiipcoojijiaaDoor.Fns
set_option linter.unusedSimpArgs false
set_option linter.unusedVariables false
open Go.RowKit Go.Proofs.YtnmiipcoojijiaaDoor.Lib Go.Proofs.YtnmiipcoojijiaaDoor.Plain Go.Proofs.YtnmiipcoojijiaaDoorW.PrintWords Go.Proofs.YtnmiipcoojijiaaDoorW.PrintLast Go.Proofs.YtnmiipcoojijiaaDoorW.PrintMore

theorem rd_drop {b : List Int} {i : Nat} {c : Int} {t : List Int} (h : b.drop i = c :: t) : rd b (i : Int) = c ∧ i < b.length ∧ b.drop (i + 1) = t := by
  have hl : i < b.length := by
    have := congrArg List.length h
    simp at this
    omega
  rw [List.drop_eq_getElem_cons hl] at h
  simp only [List.cons.injEq] at h
  refine ⟨?_, hl, h.2⟩
  unfold rd
  rw [Int.toNat_natCast, List.getD_eq_getElem?_getD, List.getElem?_eq_getElem hl]
  exact h.1
theorem drop_nil_of {b : List Int} {i : Nat} (h : b.drop i = []) (hi : i ≤ b.length) : i = b.length := by
  have := List.drop_eq_nil_iff.1 h
  omega

/-! ### Short -/
theorem or128 (x : Nat) (h : x < 256) : Go.bits .or .u8 (x : Int) 128 = ((x % 128 + 128 : Nat) : Int) := by
  have e : ∀ x : Nat, x < 256 → x ||| 128 = x % 128 + 128 := by decide +kernel
  have := u8_or_nat x 128 h (by decide)
  rw [e x h] at this
  exact this
theorem short_l0 : ∀ (n v : Nat) (x3 : List Int) (k : Nat), v < 128 ^ (n + 1) → x3.length + n < 140737488355328 → n < k → code_Short.l0 k (v : Int) x3 = some (x3 ++ sh v) := by
  intro n
  induction n with
  | zero =>
    intro v x3 k hv hl hk
    obtain ⟨m, rfl⟩ : ∃ m, k = m + 1 := ⟨k - 1, by omega⟩
    have h : v < 128 := by simpa using hv
    simp only [code_Short.l0]
    rw [if_neg (by omega), if_pos (by omega), sh_lt h, show (v : Int) % 256 = (v : Int) by omega]
  | succ n ih =>
    intro v x3 k hv hl hk
    obtain ⟨m, rfl⟩ : ∃ m, k = m + 1 := ⟨k - 1, by omega⟩
    by_cases h : v < 128
    · simp only [code_Short.l0]
      rw [if_neg (by omega), if_pos (by omega), sh_lt h, show (v : Int) % 256 = (v : Int) by omega]
    · simp only [code_Short.l0]
      rw [if_pos (by omega), if_pos (by omega), sh_ge (by omega), show (v : Int) % 256 = ((v % 256 : Nat) : Int) by omega, or128 _ (by omega), show v % 256 % 128 = v % 128 by omega, show (v : Int) / 128 = ((v / 128 : Nat) : Int) by omega]
      rw [ih (v / 128) _ m (by rw [Nat.pow_succ] at hv; omega) (by simp; omega) (by omega)]
      simp
theorem pow10 {v : Nat} (h : v < 18446744073709551616) : v < 128 ^ (9 + 1) := Nat.lt_of_lt_of_le h (by decide)
theorem ev_short {v : Nat} (h : v < 18446744073709551616) : Ev (fun k => code_Short.f k (v : Int)) (sh v) := by
  refine ⟨11, fun k hk => ?_⟩
  show code_Short.f k (v : Int) = _
  unfold code_Short.f
  rw [short_l0 9 v [] k (pow10 h) (by simp) (by omega), List.nil_append]
/-! ### ReadShort -/
theorem or_add (v a i : Nat) (hv : v < 2 ^ i) (h : a * 2 ^ i < 18446744073709551616) (hi : i ≤ 63) : Go.bits .or .u64 (v : Int) ((a * 2 ^ i : Nat) : Int) = ((v + a * 2 ^ i : Nat) : Int) := by
  have h1 : (2 : Nat) ^ i ≤ 2 ^ 63 := Nat.pow_le_pow_right (by decide) hi
  rw [bits_or_u64_nat v (a * 2 ^ i) (by omega) h, Nat.or_comm, Nat.mul_comm a, ← Nat.two_pow_add_eq_or_of_lt hv a]
  rw [Nat.add_comm]
theorem and127 (c : Int) (h : 0 ≤ c ∧ c < 256) : Go.bits .and .u8 c 127 = c % 128 := by
  obtain ⟨n, rfl⟩ := Int.eq_ofNat_of_zero_le h.1
  have e : ∀ x : Nat, x < 256 → x &&& 127 = x % 128 := by decide +kernel
  have := u8_and_nat n 127 (by omega) (by decide)
  rw [e n (by omega)] at this
  exact this
theorem pow7 {i : Nat} (h : i ≤ 8) : (2 : Nat) ^ (7 * i) ≤ 72057594037927936 := Nat.le_trans (Nat.pow_le_pow_right (by decide) (by omega : 7 * i ≤ 56)) (by decide)
theorem step7 (c v : Nat) (i : Nat) (hi : i ≤ 9) (hc : c < 256) (h9 : i = 9 → c ≤ 1) (hv : v < 2 ^ (7 * i)) :
    Go.bits .or .u64 (v : Int) (shl .u64 (IntKind.u64.wrap (Go.bits .and .u8 (c : Int) 127)) (wrap64 (7 * (i : Int)))) = ((v + c % 128 * 2 ^ (7 * i) : Nat) : Int) ∧ c % 128 * 2 ^ (7 * i) < 18446744073709551616 ∧ (i ≤ 8 → v + c % 128 * 2 ^ (7 * i) < 2 ^ (7 * (i + 1))) := by
  have hf : c % 128 * 2 ^ (7 * i) < 18446744073709551616 := fits_one hi (by omega) (fun h => by have := h9 h; omega)
  have hw : wrap64 (7 * (i : Int)) = ((7 * i : Nat) : Int) := by rw [w64 (by omega) (by omega)]; omega
  refine ⟨?_, hf, ?_⟩
  · rw [and127 c (by omega), IntWalk.u64_in _ (by omega), hw]
    unfold shl
    rw [Int.toNat_natCast, show IntKind.bits .u64 = 64 from rfl, Nat.min_eq_left (by omega), IntKind.wrap_u64]
    have e : ((c : Int) % 128) * 2 ^ (7 * i) = ((c % 128 * 2 ^ (7 * i) : Nat) : Int) := by push_cast; rfl
    rw [e, Int.emod_eq_of_lt (by omega) (by omega)]
    exact or_add v (c % 128) (7 * i) hv hf (by omega)
  · intro h8
    have hp : (2 : Nat) ^ (7 * (i + 1)) = 128 * 2 ^ (7 * i) := by rw [show 7 * (i + 1) = 7 + 7 * i from by omega, Nat.pow_add]
    rw [hp]
    have : c % 128 * 2 ^ (7 * i) ≤ 127 * 2 ^ (7 * i) := Nat.mul_le_mul_right _ (by omega)
    omega

theorem readShort_l0 (b : List Int) (hb : Byt b) (hl : b.length ≤ 140737488355328) : ∀ (d i v k : Nat), i ≤ b.length → b.length - i = d → i ≤ 9 → v < 2 ^ (7 * i) → 2 * d < k → code_ReadShort.l0 k b (v : Int) (i : Int) 10 = some (rsh (b.drop i) i (v : Int)) := by
  intro d
  induction d with
  | zero =>
    intro i v k hi hd h9 hv hk
    obtain ⟨m, rfl⟩ : ∃ m, k = m + 1 := ⟨k - 1, by omega⟩
    simp only [code_ReadShort.l0]
    rw [if_pos (by omega), List.drop_of_length_le (by omega)]
    rfl
  | succ d ih =>
    intro i v k hi hd h9 hv hk
    obtain ⟨m, rfl⟩ : ∃ m, k = m + 1 + 1 := ⟨k - 2, by omega⟩
    obtain ⟨c, t, hct⟩ : ∃ c t, b.drop i = c :: t := by
      cases h : b.drop i with
      | nil => have := drop_nil_of h hi; omega
      | cons c t => exact ⟨c, t, rfl⟩
    obtain ⟨hr, hlt, ht⟩ := rd_drop hct
    have hc : 0 ≤ c ∧ c < 256 := (hct ▸ hb.drop i : Byt (c :: t)).head
    obtain ⟨cn, rfl⟩ := Int.eq_ofNat_of_zero_le hc.1
    rw [hct]
    have w1 : wrap64 ((i : Int) + 1) = ((i + 1 : Nat) : Int) := by rw [w64 (by omega) (by omega)]; omega
    have w2 : wrap64 (((i + 1 : Nat) : Int) - 1) = (i : Int) := by rw [w64 (by omega) (by omega)]; omega
    have w3 : 0 ≤ wrap64 (7 * (i : Int)) := by rw [w64 (by omega) (by omega)]; omega
    have jn : (i = 9 → cn ≤ 1) → code_ReadShort.j1 (m + 1) b (v : Int) (i : Int) 10 false = some (if (cn : Int) ≥ 128 then rsh t (i + 1) (v + (cn : Int) % 128 * 2 ^ (7 * i)) else if (cn : Int) = 0 ∧ i ≥ 1 then (0, 0, 3) else (v + (cn : Int) % 128 * 2 ^ (7 * i), ((i + 1 : Nat) : Int), 0)) := by
      intro h91
      obtain ⟨s1, s2, s3⟩ := step7 cn v i h9 (by omega) h91 hv
      have s1' : (((v + cn % 128 * 2 ^ (7 * i) : Nat)) : Int) = (v : Int) + (cn : Int) % 128 * 2 ^ (7 * i) := by push_cast; rfl
      simp only [code_ReadShort.j1]
      rw [if_neg (by decide), if_pos (by omega), if_pos (by omega), if_pos w3, w1, w2, if_pos (by omega), if_pos (by omega), hr, s1]
      by_cases h8 : (cn : Int) ≥ 128
      · rw [if_pos h8, if_pos h8, ih (i + 1) _ m (by omega) (by omega) (by omega) (s3 (by omega)) (by omega), ht, s1']
      · rw [if_neg h8, if_neg h8]
        by_cases h0 : (cn : Int) = 0
        · rw [if_pos h0]
          by_cases hi1 : i ≥ 1
          · rw [if_pos (by omega), if_pos ⟨h0, hi1⟩]
          · rw [if_neg (by omega), if_neg (by omega), s1']
        · rw [if_neg h0, if_neg (by omega), s1']
    simp only [code_ReadShort.l0, rsh]
    rw [if_neg (by omega)]
    by_cases hi9 : i = 9
    · subst hi9
      rw [if_pos (by rfl), if_pos (by omega), if_pos (by omega), hr]
      by_cases h1 : (cn : Int) > 1
      · rw [decide_eq_true h1, if_pos ⟨rfl, h1⟩]
        simp only [code_ReadShort.j1]
        rw [if_pos trivial]
      · rw [decide_eq_false h1, if_neg (by omega)]
        exact jn (fun _ => by omega)
    · rw [if_neg (by omega), if_neg (by omega)]
      exact jn (fun h => absurd h hi9)
theorem ev_readShort {b : List Int} (hb : Byt b) (hl : b.length ≤ 140737488355328) : Ev (fun k => code_ReadShort.f k b) (rsh b 0 0) := by
  refine ⟨2 * b.length + 1, fun k hk => ?_⟩
  show code_ReadShort.f k b = _
  unfold code_ReadShort.f
  have := readShort_l0 b hb hl b.length 0 0 k (by omega) (by omega) (by omega) (by decide) (by omega)
  simpa using this

/-! ### Number -/
/-- A number's place in the order. -/
def ordn (v : Int) : Nat := (v + 9223372036854775808).toNat
theorem xor_top (u : Nat) (h : u < 18446744073709551616) : Go.bits .xor .u64 (u : Int) 9223372036854775808 = (((u + 9223372036854775808) % 18446744073709551616 : Nat) : Int) := by
  have := bits_xor_u64_nat u 9223372036854775808 h (by decide)
  have e : u ^^^ 9223372036854775808 = (u + 9223372036854775808) % 18446744073709551616 := by
    apply Nat.eq_of_testBit_eq
    intro i
    rw [show (18446744073709551616 : Nat) = 2 ^ 64 from rfl, show (9223372036854775808 : Nat) = 2 ^ 63 from rfl, Nat.testBit_xor, Nat.testBit_mod_two_pow, Nat.testBit_two_pow]
    by_cases h63 : i = 63
    · subst h63
      rw [Nat.add_comm u, Nat.testBit_two_pow_add_eq]
      cases u.testBit 63 <;> rfl
    · by_cases hlt : i < 63
      · rw [Nat.add_comm, Nat.testBit_two_pow_add_gt (by omega)]
        simp [show i < 64 by omega, show ¬ 63 = i by omega]
      · have : u.testBit i = false := Nat.testBit_lt_two_pow (Nat.lt_of_lt_of_le h (by
          rw [show (18446744073709551616 : Nat) = 2 ^ 64 from rfl]; exact Nat.pow_le_pow_right (by decide) (by omega)))
        simp [this, show ¬ i < 64 by omega, show ¬ 63 = i by omega]
  rw [← e]
  exact this
theorem xor_ord {v : Int} (h : -9223372036854775808 ≤ v ∧ v < 9223372036854775808) : Go.bits .xor .u64 (IntKind.u64.wrap v) 9223372036854775808 = (ordn v : Int) ∧ ordn v < 18446744073709551616 := by
  have e : IntKind.u64.wrap v = (((v % 18446744073709551616).toNat : Nat) : Int) := by rw [IntKind.wrap_u64]; omega
  rw [e, xor_top _ (by omega)]
  unfold ordn
  omega
theorem number_l0 (u : Nat) : ∀ (j : Nat) (acc : List Int) (k : Nat), j ≤ 8 → acc.length + j ≤ 8 → j < k → code_Number.l0 k (u : Int) acc (8 * (j : Int) - 8) = some (acc ++ numb u j) := by
  intro j
  induction j with
  | zero =>
    intro acc k _ _ hk
    obtain ⟨m, rfl⟩ : ∃ m, k = m + 1 := ⟨k - 1, by omega⟩
    simp only [code_Number.l0]
    rw [if_neg (by omega)]
    simp [numb]
  | succ j ih =>
    intro acc k h8 hl hk
    obtain ⟨m, rfl⟩ : ∃ m, k = m + 1 := ⟨k - 1, by omega⟩
    simp only [code_Number.l0]
    have e : 8 * ((j + 1 : Nat) : Int) - 8 = ((8 * j : Nat) : Int) := by omega
    rw [e, if_pos (by omega), if_pos (by omega), if_pos (by omega), w64 (by omega) (by omega)]
    have hs : shr .u64 (u : Int) ((8 * j : Nat) : Int) % 256 = ((u / 2 ^ (8 * j) % 256 : Nat) : Int) := by
      unfold shr
      rw [Int.toNat_natCast, show IntKind.bits .u64 = 64 from rfl, Nat.min_eq_left (by omega), Int.natCast_emod, Int.natCast_ediv, Int.natCast_pow]
      rfl
    rw [hs, show ((8 * j : Nat) : Int) - 8 = 8 * (j : Int) - 8 by omega, ih _ m (by omega) (by simp; omega) (by omega)]
    simp [numb]
theorem ev_number {v : Int} (h : -9223372036854775808 ≤ v ∧ v < 9223372036854775808) : Ev (fun k => code_Number.f k v) (numb (ordn v) 8) := by
  refine ⟨9, fun k hk => ?_⟩
  show code_Number.f k v = _
  unfold code_Number.f
  rw [(xor_ord h).1]
  have := number_l0 (ordn v) 8 [] k (by omega) (by simp) (by omega)
  simpa using this
/-! ### ReadNumber -/
theorem val_snoc (l : List Int) (c : Int) : val (l ++ [c]) = val l * 256 + c := by
  unfold val; rw [List.foldl_append]; rfl
theorem take_snoc {b : List Int} {i : Nat} {c : Int} {t : List Int} (h : b.drop i = c :: t) : b.take (i + 1) = b.take i ++ [c] := by
  have h' := rd_drop h
  rw [List.take_succ_eq_append_getElem h'.2.1]
  rw [List.drop_eq_getElem_cons h'.2.1] at h
  simp only [List.cons.injEq] at h
  rw [h.1]
theorem val_take_bound {b : List Int} (hb : Byt b) (i : Nat) (hi : i ≤ 7) : 0 ≤ val (b.take i) ∧ val (b.take i) < 72057594037927936 := by
  have h := val_bound (b.take i) (hb.take i)
  have h2 : (256 : Int) ^ (b.take i).length ≤ 256 ^ 7 := by
    have : ((256 ^ (b.take i).length : Nat) : Int) ≤ ((256 ^ 7 : Nat) : Int) := Int.ofNat_le.2 (Nat.pow_le_pow_right (by decide) (by rw [List.length_take]; omega))
    rw [Int.natCast_pow, Int.natCast_pow] at this
    exact this
  exact ⟨h.1, by omega⟩
theorem val8_bound {b : List Int} (hb : Byt b) : 0 ≤ val (b.take 8) ∧ val (b.take 8) < 18446744073709551616 := by
  have h := val_bound (b.take 8) (hb.take 8)
  have h2 : (256 : Int) ^ (b.take 8).length ≤ 256 ^ 8 := by
    have : ((256 ^ (b.take 8).length : Nat) : Int) ≤ ((256 ^ 8 : Nat) : Int) := Int.ofNat_le.2 (Nat.pow_le_pow_right (by decide) (by rw [List.length_take]; omega))
    rw [Int.natCast_pow, Int.natCast_pow] at this
    exact this
  exact ⟨h.1, by omega⟩
/-- What is read of bytes in order. -/
def rnum (b : List Int) : Int × Int × Int := if b.length < 8 then (0, 0, 10) else (val (b.take 8) - 9223372036854775808, 8, 0)
theorem or_byte (x c : Nat) (hx : x < 72057594037927936) (hc : c < 256) : Go.bits .or .u64 (IntKind.u64.wrap ((x : Int) * 256)) (IntKind.u64.wrap (c : Int)) = ((x * 256 + c : Nat) : Int) := by
  rw [IntWalk.u64_in _ (by omega), IntWalk.u64_in _ (by omega)]
  have := or_add c x 8 (by omega) (by omega) (by omega)
  rw [show ((x : Int) * 256) = ((x * 256 : Nat) : Int) by omega, bits_or_u64_nat _ _ (by omega) (by omega)]
  rw [bits_or_u64_nat _ _ (by omega) (by omega)] at this
  rw [Nat.or_comm, show x * 256 = x * 2 ^ 8 from rfl]
  rw [this, Nat.add_comm]
theorem readNumber_l0 (b : List Int) (hb : Byt b) (h8 : 8 ≤ b.length) : ∀ (d i k : Nat), i + d = 8 → d < k → code_ReadNumber.l0 k (val (b.take i)) (b.take 8) ((b.take 8).length : Int) (i : Int) = some (val (b.take 8) - 9223372036854775808, 8, 0) := by
  intro d
  have hlen : (b.take 8).length = 8 := by rw [List.length_take]; omega
  induction d with
  | zero =>
    intro i k hi hk
    obtain ⟨m, rfl⟩ : ∃ m, k = m + 1 := ⟨k - 1, by omega⟩
    obtain rfl : i = 8 := by omega
    have hv := val8_bound hb
    obtain ⟨n, hn⟩ := Int.eq_ofNat_of_zero_le hv.1
    simp only [code_ReadNumber.l0]
    rw [if_neg (by omega), hn, xor_top n (by omega)]
    congr 2
    unfold wrap64
    omega
  | succ d ih =>
    intro i k hi hk
    obtain ⟨m, rfl⟩ : ∃ m, k = m + 1 := ⟨k - 1, by omega⟩
    obtain ⟨c, t, hct⟩ : ∃ c t, b.drop i = c :: t := by
      cases h : b.drop i with
      | nil => have := List.drop_eq_nil_iff.1 h; omega
      | cons c t => exact ⟨c, t, rfl⟩
    have hc : 0 ≤ c ∧ c < 256 := (hct ▸ hb.drop i : Byt (c :: t)).head
    have hr : rd (b.take 8) (i : Int) = c := by
      have := (rd_drop hct).1
      unfold rd at this ⊢
      rw [Int.toNat_natCast] at this ⊢
      rw [List.getD_eq_getElem?_getD] at this ⊢
      rw [List.getElem?_take_of_lt (by omega)]
      exact this
    have hv := val_take_bound hb i (by omega)
    obtain ⟨n, hn⟩ := Int.eq_ofNat_of_zero_le hv.1
    obtain ⟨cn, rfl⟩ := Int.eq_ofNat_of_zero_le hc.1
    simp only [code_ReadNumber.l0]
    rw [if_pos (by omega), if_pos (by omega), if_pos (by omega), hr, hn, or_byte n cn (by omega) (by omega), w64 (by omega) (by omega)]
    have e : ((n * 256 + cn : Nat) : Int) = val (b.take (i + 1)) := by rw [take_snoc hct, val_snoc, hn]; omega
    rw [e, show (i : Int) + 1 = ((i + 1 : Nat) : Int) by omega]
    exact ih (i + 1) m (by omega) (by omega)
theorem ev_readNumber {b : List Int} (hb : Byt b) : Ev (fun k => code_ReadNumber.f k b) (rnum b) := by
  refine ⟨9, fun k hk => ?_⟩
  show code_ReadNumber.f k b = _
  unfold code_ReadNumber.f rnum
  by_cases h : b.length < 8
  · rw [if_pos (by omega), if_pos h]
  · rw [if_neg (by omega), if_neg h, if_pos (by omega)]
    have := readNumber_l0 b hb (by omega) 8 0 k (by omega) (by omega)
    simpa [val] using this
theorem rnum_numb {v : Int} (h : -9223372036854775808 ≤ v ∧ v < 9223372036854775808) (more : List Int) : rnum (numb (ordn v) 8 ++ more) = (v, 8, 0) := by
  have hl : (numb (ordn v) 8).length = 8 := numb_length _ _
  unfold rnum
  rw [if_neg (by rw [List.length_append]; omega), List.take_append_of_le_length (by omega), List.take_of_length_le (by omega), val_numb]
  have := (xor_ord h).2
  rw [show (2 : Nat) ^ (8 * 8) = 18446744073709551616 from rfl, Nat.mod_eq_of_lt this]
  congr 1
  unfold ordn
  omega

/-! ### Text -/
theorem text_l0 (s : ByteArray) (hs : s.size ≤ 70000000000000) : ∀ (d i : Nat) (acc : List Int) (k : Nat), i ≤ s.size → s.size - i = d → acc.length ≤ 2 * i → d < k → code_Text.l0 k s acc (s.size : Int) (i : Int) = some (acc ++ txt ((bs s).drop i)) := by
  intro d
  have hl : (bs s).length = s.size := bs_length s
  induction d with
  | zero =>
    intro i acc k hi hd ha hk
    obtain ⟨m, rfl⟩ : ∃ m, k = m + 1 := ⟨k - 1, by omega⟩
    simp only [code_Text.l0]
    rw [if_neg (by omega), Option.bind_some, if_pos (by simp; omega), List.drop_of_length_le (by omega)]
    rfl
  | succ d ih =>
    intro i acc k hi hd ha hk
    obtain ⟨m, rfl⟩ : ∃ m, k = m + 1 := ⟨k - 1, by omega⟩
    obtain ⟨c, t, hct⟩ : ∃ c t, (bs s).drop i = c :: t := by
      cases h : (bs s).drop i with
      | nil => have := List.drop_eq_nil_iff.1 h; omega
      | cons c t => exact ⟨c, t, rfl⟩
    obtain ⟨hr, _, ht⟩ := rd_drop hct
    simp only [code_Text.l0]
    rw [if_pos (by omega), if_pos (by omega), if_pos (by omega), if_pos (by omega), Option.bind_some, bt_rd, hr, hct, w64 (by omega) (by omega), show (i : Int) + 1 = ((i + 1 : Nat) : Int) by omega]
    unfold txt
    by_cases h0 : c = 0
    · rw [if_pos h0, if_pos h0, if_pos (by simp; omega), ih (i + 1) _ m (by omega) (by omega) (by simp; omega) (by omega), ht]
      simp [h0]
    · rw [if_neg h0, if_neg h0, ih (i + 1) _ m (by omega) (by omega) (by simp; omega) (by omega), ht]
      simp
theorem ev_text {s : ByteArray} (hs : s.size ≤ 70000000000000) : Ev (fun k => code_Text.f k s) (txt (bs s)) := by
  refine ⟨s.size + 1, fun k hk => ?_⟩
  show code_Text.f k s = _
  unfold code_Text.f
  have := text_l0 s hs s.size 0 [] k (by omega) (by omega) (by simp) (by omega)
  simpa using this
/-! ### ReadText -/
theorem readText_l0 (b : List Int) (hl : b.length ≤ 140737488355328) : ∀ (d i : Nat) (out : List Int) (k : Nat), i ≤ b.length → b.length - i ≤ d → out.length ≤ i → d < k → code_ReadText.l0 k b out (i : Int) = some (rtx (b.drop i) out (i : Int)) := by
  intro d
  induction d with
  | zero =>
    intro i out k hi hd ho hk
    obtain ⟨m, rfl⟩ : ∃ m, k = m + 1 := ⟨k - 1, by omega⟩
    simp only [code_ReadText.l0]
    rw [if_neg (by omega), List.drop_of_length_le (by omega)]
    rfl
  | succ d ih =>
    intro i out k hi hd ho hk
    obtain ⟨m, rfl⟩ : ∃ m, k = m + 1 := ⟨k - 1, by omega⟩
    by_cases hend : i = b.length
    · simp only [code_ReadText.l0]
      rw [if_neg (by omega), List.drop_of_length_le (by omega)]
      rfl
    obtain ⟨c, t, hct⟩ : ∃ c t, b.drop i = c :: t := by
      cases h : b.drop i with
      | nil => have := drop_nil_of h hi; omega
      | cons c t => exact ⟨c, t, rfl⟩
    obtain ⟨hr, hlt, ht⟩ := rd_drop hct
    have w1 : wrap64 ((i : Int) + 1) = ((i + 1 : Nat) : Int) := by rw [w64 (by omega) (by omega)]; omega
    have w2 : wrap64 (((i + 1 : Nat) : Int) + 1) = ((i + 2 : Nat) : Int) := by rw [w64 (by omega) (by omega)]; omega
    simp only [code_ReadText.l0]
    rw [if_pos (by omega), if_pos (by omega), hr, hct, w1, w2]
    by_cases hc : c = 0
    · subst hc
      rw [if_pos rfl]
      cases t with
      | nil =>
        have : i + 1 = b.length := by
          have := drop_nil_of ht (by omega)
          omega
        rw [if_pos (by omega), rtx_end]
      | cons e t' =>
        obtain ⟨hr2, hlt2, ht2⟩ := rd_drop ht
        rw [if_neg (by omega), if_pos (by omega), if_pos (by omega), hr2, rtx_z]
        by_cases h1 : e = 1
        · rw [if_pos h1, if_pos h1]; rfl
        · rw [if_neg h1, if_neg h1]
          by_cases h2 : e = 255
          · rw [if_pos h2, if_pos h2, if_pos (by omega), ih (i + 2) _ m (by omega) (by omega) (by simp; omega) (by omega), ht2]
            rfl
          · rw [if_neg h2, if_neg h2]
    · rw [if_neg hc, if_pos (by omega), rtx_nz hc, ih (i + 1) _ m (by omega) (by omega) (by simp; omega) (by omega), ht]
      rfl
theorem ev_readText {b : List Int} (hl : b.length ≤ 140737488355328) : Ev (fun k => code_ReadText.f k b) (rtx b [] 0) := by
  refine ⟨b.length + 1, fun k hk => ?_⟩
  show code_ReadText.f k b = _
  unfold code_ReadText.f
  have := readText_l0 b hl b.length 0 [] k (by omega) (by omega) (by simp) (by omega)
  simpa using this
/-! ### with, alive -/
end Go.Proofs.YtnmiipcoojijiaaDoor.Fns
