/-
  Small words for 'more rounds tell the same', and for texts told as numbers.
-/
import Derived.Test.YtnmiipcoojijiaaDoorFns
namespace Go.Proofs.YtnmiipcoojijiaaDoor.Fns
open Go.RowKit Go.Proofs.YtnmiipcoojijiaaDoor.Plain Go.Proofs.YtnmiipcoojijiaaDoorW.PrintWords
theorem ev_pos {α : Type} {c : Prop} [Decidable c] {f g : Nat → Option α} {r : α} (h : c) (k : Ev f r) : Ev (fun n => if c then f n else g n) r := by
  simp only [if_pos h]; exact k
theorem ev_neg {α : Type} {c : Prop} [Decidable c] {f g : Nat → Option α} {r : α} (h : ¬ c) (k : Ev g r) : Ev (fun n => if c then f n else g n) r := by
  simp only [if_neg h]; exact k
theorem ev_now {α : Type} {a r : α} (h : a = r) : Ev (fun _ => some a) r := by subst h; exact Ev.now a
theorem eq_nums {l m : List Int} (hl : Byt l) (hm : Byt m) : ((strOfNums l).toList == (strOfNums m).toList) = decide (l = m) := by
  by_cases h : l = m
  · subst h; simp
  · have : ¬ (strOfNums l).toList = (strOfNums m).toList := fun e => h ((strOfNums_inj hl hm).1 (toList_inj.1 e))
    rw [beq_eq_false_iff_ne.2 this]; simp [h]
theorem eq_bs (s t : ByteArray) : (s.toList == t.toList) = decide (bs s = bs t) := by
  by_cases h : bs s = bs t
  · rw [bs_inj h]; simp
  · have : ¬ s.toList = t.toList := fun e => h (by rw [toList_inj.1 e])
    rw [beq_eq_false_iff_ne.2 this]; simp [h]
theorem eq_toList (s t : ByteArray) : s.toList = t.toList ↔ bs s = bs t := ⟨fun e => by rw [toList_inj.1 e], fun e => by rw [bs_inj e]⟩
theorem txt_less {x y : List Int} (hx : Byt x) (hy : Byt y) : lts (txt x) (txt y) = lts x y := by
  have := txt_lts x y [] [] hx hy
  simp only [List.append_nil] at this
  rw [this]
  simp [lts]
theorem txt_eq {x y : List Int} (hx : Byt x) (hy : Byt y) : txt x = txt y ↔ x = y := by
  constructor
  · intro h
    exact (txt_inj (p := []) (q := []) hx hy (by simpa using h)).1
  · rintro rfl; rfl
theorem less_number {a b : Int} (ha : -9223372036854775808 ≤ a ∧ a < 9223372036854775808) (hb : -9223372036854775808 ≤ b ∧ b < 9223372036854775808) : lts (numb (ordn a) 8) (numb (ordn b) 8) = decide (a < b) := by
  have h1 := (xor_ord ha).2
  have h2 := (xor_ord hb).2
  rw [numb_lts, show (2 : Nat) ^ (8 * 8) = 18446744073709551616 from rfl, Nat.mod_eq_of_lt h1, Nat.mod_eq_of_lt h2]
  unfold ordn
  by_cases h : a < b
  · simp [h]; omega
  · simp [h]; omega
theorem extract_nums (l : List Int) (n : Nat) : ((strOfNums l).extract 0 n).toList = (strOfNums (l.take n)).toList := by
  rw [toList_data, toList_data, strOfNums_data, Lib.extract_data, strOfNums_data, List.map_take]
  simp
end Go.Proofs.YtnmiipcoojijiaaDoor.Fns
